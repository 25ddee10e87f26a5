/-
  Package press: Check, Held; the reference's Check, Held, first.
-/
import Derived.Test.YtmbnmhcfafgnaaaHeapPress
import Derived.Test.YtmbnmhcfafgnaaaPressLaw
namespace Go.Proofs.Ytmbnmhcfafgnaaa
open Go.RowKit Go.Mine

theorem Try.infoI28 : (Try.prog.info? 3).map (fun i => (i.zero, i.size, i.bytes)) = some (some (.int .i64 0), 1, 8) := by kernel_rfl
theorem rd_int {W : World} {A : Option Addr} {n c : Nat} {l : List Int} (h : Rd W 1 (.slice A n c) n (intCells l)) (hn : l.length = n) {k : Nat} (hk : k < n) :
    ∃ g off, A = some ⟨g, off, none⟩ ∧ W.cell? ⟨g, off + k, none⟩ = some (.int .i64 (l[k]'(by omega))) := by
  obtain ⟨-, A', c', hv, -, hA⟩ := h
  injection hv with hv _ _
  subst hv
  obtain ⟨g, off, e1, e2⟩ := hA (by omega)
  exact ⟨g, off, e1, e2 k _ (intCells_get (by omega))⟩
theorem rd_hold {W : World} {A : Option Addr} {n c : Nat} {l : List Holder} (h : Rd W 2 (.slice A n c) n (hcs l)) (hn : l.length = n) {k : Nat} {x : Holder} (hx : l[k]? = some x) :
    ∃ g off, A = some ⟨g, off, none⟩ ∧ W.cell? ⟨g, off + k * 2, none⟩ = some (.int .i64 x.id) ∧ W.cell? ⟨g, off + k * 2 + 1, none⟩ = some (.int .i64 x.fr) := by
  have hk := (List.getElem?_eq_some_iff.1 hx).1
  obtain ⟨-, A', c', hv, -, hA⟩ := h
  injection hv with hv _ _
  subst hv
  obtain ⟨g, off, e1, e2⟩ := hA (by omega)
  have := e2 _ _ (hcs_fr hx)
  rw [← Nat.add_assoc] at this
  exact ⟨g, off, e1, e2 _ _ (hcs_id hx), this⟩

set_option maxRecDepth 100000 in
theorem Index_any (W : World) (A : Option Addr) (n c : Nat) (ids : List Int) (h : Rd W 1 (.slice A n c) n (intCells ids)) (hn : ids.length = n) (hnc : n ≤ c) (hl : n ≤ 1000000000) (x : Int) :
    Calls Try.prog 71 #[.slice A n c, .int .i64 x] W fun e w' => (∃ r : Int, e = .returned (.int .i64 r) ∧ (0 ≤ r ↔ x ∈ ids)) ∧ W = w' := by
  have HR := Lib.hid (And.intro h hn)
  clear h hn
  go_enter Try.func71, Try.ntmps71
  go_wp2_with fail
  go_loopw [8] (fun i wr => ∃ k : Nat, k ≤ n ∧ i = .int .i64 (k : Int) ∧ Hid (x ∉ ids.take k) ∧ W = wr) (fun i _ => n - (intOf i).toNat)
  case atStart => exact ⟨0, by omega, rfl, Lib.hid (by simp), rfl⟩
  case round =>
    obtain ⟨k, hk, rfl, HX, rfl⟩ := hrel
    by_cases hlt : k < n
    · obtain ⟨g, off, rfl, c0⟩ := rd_int HR.out.1 HR.out.2 hlt
      have hkl : k < ids.length := by rw [HR.out.2]; exact hlt
      obtain ⟨y, hy⟩ : ∃ y, ids[k]'hkl = y := ⟨_, rfl⟩
      rw [hy] at c0
      have htk := take_snoc ids hkl
      rw [hy] at htk
      by_cases he : x = y
      · subst he
        have b : (x == x) = true := by simp
        have HM := Lib.hid (show (0 : Int) ≤ (k : Int) ↔ x ∈ ids from ⟨fun _ => by rw [← hy]; exact List.getElem_mem hkl, fun _ => by omega⟩)
        clear htk hy
        go_wp2_with fail
        go_ret
        exact ⟨⟨_, rfl, HM.out⟩, rfl⟩
      · have b : (x == y) = false := by simpa using he
        have HM := Lib.hid (show x ∉ ids.take (k + 1) by rw [htk]; simp only [List.mem_append, List.mem_singleton, not_or]; exact ⟨HX.out, he⟩)
        clear htk hy he
        go_wp2_with fail
        go_roundw
        case rel => exact ⟨k + 1, by omega, by go_num, HM, by trivial⟩
        case measure => simp [intOf]; omega
    · obtain rfl : n = k := by omega
      have HM := Lib.hid (show (0 : Int) ≤ (-1 : Int) ↔ x ∈ ids from ⟨fun h => by omega, fun h => absurd (by rw [List.take_of_length_le (by rw [HR.out.2]; exact Nat.le_refl _)]; exact h) HX.out⟩)
      go_wp2_with fail
      go_ret
      exact ⟨⟨_, rfl, HM.out⟩, rfl⟩
set_option maxRecDepth 100000 in
theorem Contains_any (W : World) (A : Option Addr) (n c : Nat) (ids : List Int) (h : Rd W 1 (.slice A n c) n (intCells ids)) (hn : ids.length = n) (hnc : n ≤ c) (hl : n ≤ 1000000000) (x : Int) :
    Calls Try.prog 52 #[.slice A n c, .int .i64 x] W fun e w' => e = .returned (.bool (decide (x ∈ ids))) ∧ W = w' := by
  have hi := Index_any W A n c ids h hn hnc hl x
  clear h hn
  go_enter Try.func52, Try.ntmps52
  go_wp2_with (go_at_call 71; refine hi.mono ?_; rintro e w' ⟨⟨r, rfl, hr⟩, rfl⟩)
  go_ret
  exact ⟨rfl, rfl⟩

set_option maxRecDepth 100000 in
set_option maxHeartbeats 4000000 in
theorem hCheck_any (W : World) (A : Option Addr) (n c : Nat) (l : List Holder) (h : Rd W 2 (.slice A n c) n (hcs l)) (hn : l.length = n) (hnc : n ≤ c) :
    Calls Try.prog 19 #[.slice A n c] W fun e w' => e = .returned (.int .i64 (checkF l)) ∧ OnlyIn [] W w' := by
  obtain ⟨i0, hi0, hz0, hz1, hz2⟩ := info_parts Try.infoI28
  have HR := Lib.hid (And.intro h hn)
  by_cases h64 : 64 < n
  · rw [checkF_bad (fun hO => by have := hO.1; omega)]
    have hd : decide ((64 : Int) < (n : Int)) = true := decide_eq_true (by omega)
    clear h hn
    go_enter Try.func19, Try.ntmps19
    go_wp2_with fail
    go_ret
    exact ⟨rfl, OnlyIn.refl _ _⟩
  have hd : decide ((64 : Int) < (n : Int)) = false := decide_eq_false (by omega)
  clear h hn
  go_enter Try.func19, Try.ntmps19
  go_wp2_with fail
  go_loopw [3, 11] (fun u i wr => ∃ (k : Nat) (B : Option Addr) (d : Nat), k ≤ n ∧ u = .slice B k d ∧ i = .int .i64 (k : Int) ∧ k ≤ d ∧ Hid (Sl wr W.heap.size 3 1 (.slice B k d) k (intCells ((l.take k).map (·.id))) ∧ OkE (l.take k) ∧ OnlyIn [] W wr)) (fun _ i _ => n - (intOf i).toNat)
  case atStart => exact ⟨0, none, 0, by omega, rfl, rfl, by omega, Lib.hid ⟨Sl.nil _ _ _ _, OkE.nil, OnlyIn.refl _ _⟩⟩
  case round =>
    obtain ⟨k, B, d, hk, rfl, rfl, hkd, HK⟩ := hrel
    by_cases hlt : k < n
    · obtain ⟨hs, hok, hto⟩ := HK.out
      have hkl : k < l.length := by rw [HR.out.2]; exact hlt
      obtain ⟨x, hx⟩ : ∃ x, l[k]'hkl = x := ⟨_, rfl⟩
      obtain ⟨g, off, rfl, a0, a1⟩ := rd_hold (HR.out.1.cells (w' := wr) fun p u hp => hto.cell hp (by simp)) HR.out.2 (k := k) (x := x) (by rw [List.getElem?_eq_getElem hkl, hx])
      have hbad := bad_at hkl
      have hstep := ok_step hkl hok
      rw [hx] at hbad hstep
      have htk := take_snoc l hkl
      rw [hx] at htk
      obtain ⟨xi, hxi⟩ : ∃ z, x.id = z := ⟨_, rfl⟩
      obtain ⟨xf, hxf⟩ : ∃ z, x.fr = z := ⟨_, rfl⟩
      rw [hxi] at a0 hbad hstep
      rw [hxf] at a1 hbad hstep
      have hto1 := hto.alloc (.cells #[.int .i64 xi, .int .i64 xf] 41)
      have hs1 := hs.alloc (.cells #[.int .i64 xi, .int .i64 xf] 41)
      have hco := Contains_any (wr.alloc (.cells #[.int .i64 xi, .int .i64 xf] 41)) B k d _ (Rd.of_sl hs1) (by rw [List.length_map, List.length_take]; omega) hkd (by omega) xi
      have HQ := Lib.hid (And.intro hbad (And.intro hstep (And.intro htk (And.intro hto1 (And.intro hs1 hxi)))))
      clear hs hok hto hbad hstep htk hto1 hs1 hx hkl hxi hxf
      by_cases h1 : 1 ≤ xi
      · have d1 : decide (xi < 1) = false := decide_eq_false (by omega)
        by_cases h2 : 0 ≤ xf
        · have d2 : decide (xf < 0) = false := decide_eq_false (by omega)
          by_cases h3 : xf ≤ 64
          · have d3 : decide ((64 : Int) < xf) = false := decide_eq_false (by omega)
            by_cases h4 : xi ∈ (l.take k).map (·.id)
            · rw [decide_eq_true h4] at hco
              have HB := Lib.hid (checkF_bad (HQ.out.1 fun h => h.2 h4))
              clear h4
              go_wp2_with (go_at_call 52; refine hco.mono ?_; rintro e w' ⟨rfl, rfl⟩)
              go_ret
              exact ⟨by rw [HB.out]; rfl, HQ.out.2.2.2.1⟩
            · rw [decide_eq_false h4] at hco
              have hok := HQ.out.2.1 ⟨⟨h1, h2, h3⟩, h4⟩
              have hrl := Rd.lit (size := 1) (wr.alloc (.cells #[.int .i64 xi, .int .i64 xf] 41)) (intCells [xi]) 3 1 rfl
              rw [World.size_alloc] at hrl
              have HZ := Lib.hid hok
              clear h4 hok
              go_wp2_with (first | (go_at_call 52; refine hco.mono ?_; rintro e w' ⟨rfl, rfl⟩; clear hco) | (at_builtin; refine wpList_append_sl rfl _ _ 27 rfl W.heap.size 3 i0 _ 1 8 Try.underlying27 hi0 hz0 hz1 hz2 rfl (by decide) (.slice B k d) k _ rfl (HQ.out.2.2.2.2.1.alloc _) (.slice (some ⟨wr.heap.size + 1, 0, none⟩) 1 1) 1 (intCells [xi]) rfl hrl (intCells_one _) (by simp only [maxLen]; omega) (by omega) (by have := HQ.out.2.2.2.1.size; simp at this ⊢; omega) ?_; intro v5 w5 hs5 hg5 hat5))
              obtain ⟨B5, d5, rfl, hd5⟩ := hs5.val
              have hto5 := (HQ.out.2.2.2.1.alloc (.cells (intCells [xi]).toArray 3)).grown hg5 (fun g hg => .inr (HQ.out.2.2.2.2.1.own_lt g hg).1)
              have HF := Lib.hid (And.intro hs5 hto5)
              clear hs5 hto5 hg5 hat5
              go_wp2_with fail
              go_roundw
              case rel => exact ⟨k + 1, B5, d5, by omega, rfl, by go_num, hd5, Lib.hid ⟨by rw [HQ.out.2.2.1, List.map_append, intCells_append, List.map_cons, List.map_nil, HQ.out.2.2.2.2.2]; exact HF.out.1, HZ.out, HF.out.2⟩⟩
              case measure => simp [intOf]; omega
          · have d3 : decide ((64 : Int) < xf) = true := decide_eq_true (by omega)
            have HB := Lib.hid (checkF_bad (HQ.out.1 fun h => h3 h.1.2.2))
            go_wp2_with fail
            go_ret
            exact ⟨by rw [HB.out]; rfl, HQ.out.2.2.2.1⟩
        · have d2 : decide (xf < 0) = true := decide_eq_true (by omega)
          have HB := Lib.hid (checkF_bad (HQ.out.1 fun h => h2 h.1.2.1))
          go_wp2_with fail
          go_ret
          exact ⟨by rw [HB.out]; rfl, HQ.out.2.2.2.1⟩
      · have d1 : decide (xi < 1) = true := decide_eq_true (by omega)
        have HB := Lib.hid (checkF_bad (HQ.out.1 fun h => h1 h.1.1))
        go_wp2_with fail
        go_ret
        exact ⟨by rw [HB.out]; rfl, HQ.out.2.2.2.1⟩
    · obtain rfl : n = k := by omega
      have hok := HK.out.2.1
      rw [List.take_of_length_le (by rw [HR.out.2]; exact Nat.le_refl _)] at hok
      have HB := Lib.hid (checkF_ok ⟨by rw [HR.out.2]; omega, hok⟩)
      clear hok
      go_wp2_with fail
      go_ret
      exact ⟨by rw [HB.out]; rfl, HK.out.2.2⟩

set_option maxRecDepth 100000 in
set_option maxHeartbeats 2000000 in
theorem hHeld_any (W : World) (A : Option Addr) (n c : Nat) (l : List Holder) (h : Rd W 2 (.slice A n c) n (hcs l)) (hn : l.length = n) (hnc : n ≤ c) :
    Calls Try.prog 21 #[.slice A n c] W fun e w' => e = .returned (.int .i64 (heldF l)) ∧ OnlyIn [] W w' := by
  have hch := hCheck_any W A n c l h hn hnc
  unfold heldF
  rcases checkF_cases l with ⟨hO, e⟩ | ⟨hO, e⟩
  · rw [if_pos hO]
    rw [e] at hch
    have hn64 : n ≤ 64 := by rw [← hn]; exact hO.1
    have hsb := fun k => sumF_bound (l := l.take k) (fun x hx => (hO.2.1 x (List.mem_of_mem_take hx)).2)
    have hst := fun k (hk : k < l.length) => sumF_take hk
    have HR := Lib.hid (And.intro h (And.intro hn (And.intro hsb (And.intro hst hO))))
    clear h hn hO e hsb hst
    go_enter Try.func21, Try.ntmps21
    go_wp2_with (go_at_call 19; refine hch.mono ?_; rintro e w1 ⟨rfl, ht⟩; clear hch)
    go_loopw [3, 11] (fun s i wr => ∃ k : Nat, k ≤ n ∧ s = .int .i64 (sumF (l.take k)) ∧ i = .int .i64 (k : Int) ∧ OnlyIn [] W wr) (fun _ i _ => n - (intOf i).toNat)
    case atStart => exact ⟨0, by omega, rfl, rfl, ht⟩
    case round =>
      clear ht
      obtain ⟨k, hk, rfl, rfl, hto⟩ := hrel
      by_cases hlt : k < n
      · obtain ⟨h, hn, hsb, hst, hO⟩ := HR.out
        have hkl : k < l.length := by omega
        obtain ⟨x, hx⟩ : ∃ x, l[k]'hkl = x := ⟨_, rfl⟩
        obtain ⟨g, off, rfl, a0, a1⟩ := rd_hold (h.cells (w' := wr) fun p u hp => hto.cell hp (by simp)) hn (k := k) (x := x) (by rw [List.getElem?_eq_getElem hkl, hx])
        have hb := hsb k
        rw [List.length_take] at hb
        have hs1 := hst k hkl
        rw [hx] at hs1
        have hxb := hO.2.1 x (by rw [← hx]; exact List.getElem_mem hkl)
        obtain ⟨xi, hxi⟩ : ∃ z, x.id = z := ⟨_, rfl⟩
        obtain ⟨xf, hxf⟩ : ∃ z, x.fr = z := ⟨_, rfl⟩
        rw [hxi] at a0
        rw [hxf] at a1 hs1 hxb
        obtain ⟨s, hs⟩ : ∃ s, sumF (l.take k) = s := ⟨_, rfl⟩
        rw [hs] at hb hs1 ⊢
        have hw : IntKind.i64.wrap (s + xf) = s + xf := by rw [IntKind.wrap_i64]; omega
        have HT := Lib.hid (And.intro hs1 (hto.alloc (.cells #[.int .i64 xi, .int .i64 xf] 41)))
        clear h hn hsb hst hO hkl hx hxi hxf hs hs1 hto
        go_wp2_with fail
        go_roundw
        case rel => exact ⟨k + 1, by omega, by rw [HT.out.1], by go_num, HT.out.2⟩
        case measure => simp [intOf]; omega
      · obtain rfl : n = k := by omega
        rw [List.take_of_length_le (by rw [HR.out.2.1]; exact Nat.le_refl _)]
        obtain ⟨s, hs⟩ : ∃ s, sumF l = s := ⟨_, rfl⟩
        rw [hs]
        have HT := Lib.hid (And.intro hto hs)
        clear hto hs
        go_wp2_with fail
        go_ret
        exact ⟨by rw [HT.out.2]; rfl, HT.out.1⟩
  · rw [if_neg hO]
    rw [e] at hch
    clear hO e h hn
    go_enter Try.func21, Try.ntmps21
    go_wp2_with (go_at_call 19; refine hch.mono ?_; rintro e w1 ⟨rfl, ht⟩; clear hch)
    go_ret
    exact ⟨rfl, ht⟩
end Go.Proofs.Ytmbnmhcfafgnaaa
