/-
  Package outbox: items, listed, All, Clear.
-/
import Derived.Test.YtcgbafdagckgcaaOutboxb
import Derived.Test.YtcgbafdagckgcaaSlice
namespace Go.Proofs.Ytcgbafdagckgcaa
open Go.RowKit Go.Mine Go.Shelf

attribute [local go_sem] Oper.semAt_some

set_option maxRecDepth 100000 in
theorem items_any (w : World) (b : Nat) :
    Calls Try.prog 60 #[.pointer (some ⟨b, 0, none⟩)] w fun e w' => e = .returned (.func (.func 68) #[] #[.pointer (some ⟨w.heap.size, 0, none⟩)]) ∧ w.alloc (.cells #[.pointer (some ⟨b, 0, none⟩)] 24) = w' := by
  have hmf : ∀ (fn : Fn) (first cap : Array Value) (w : World), (Instr.makeFunc fn first cap).run Try.prog w = .ok (.func fn first cap) w := fun _ _ _ _ => rfl
  go_enter Try.func60, Try.ntmps60
  go_wp2
  go_ret
  exact ⟨rfl, rfl⟩

/-- The iterator: for every body that keeps the outbox. -/
theorem items1_any (l B0 b r N came : Nat) (xs : List Item) (J Jx : Nat → World → Prop)
    (hO : ∀ k W, J k W → Ob W b r N came xs ∧ Blk W B0 24 [.pointer (some ⟨b, 0, none⟩)])
    (hD : ∀ k m W, J k W → J k (W.drewN m))
    (hY : ∀ k (i : Item) W, J k W → xs[k]? = some i → YieldAt Fence.wide 0 Try.prog l #[.agg #[.int .i64 i.f, .int .i64 i.g, .int .i64 i.t, .int .i64 i.y]] W fun e W' =>
      (e = .returned (.bool true) ∧ J (k + 1) W') ∨ (e = .returned (.bool false) ∧ Jx (k + 1) W'))
    (W : World) (h0 : J 0 W) :
    Calls Try.prog 68 #[.func (.yield l) #[] #[], .pointer (some ⟨B0, 0, none⟩)] W fun e W' => (∃ v, e = .returned v) ∧ (J xs.length W' ∨ ∃ k, k ≤ xs.length ∧ Jx k W') := by
  obtain ⟨ho, hb⟩ := hO 0 W h0
  have hsm := ho.small
  have hev := ho.ever
  have hle := ho.len
  have hc := hb.cell (i := 0) rfl
  have h2 := ho.blk.cell (i := 2) rfl
  have hgx : came = (came - xs.length) + xs.length := by omega
  generalize hgo : came - xs.length = gone at *
  have HG := Lib.hid hgo
  have hgx' : gone + xs.length ≤ came := by omega
  have hgx2 : came ≤ gone + xs.length := by omega
  clear hgo hgx
  have HO := Lib.hid hO
  have HD := Lib.hid hD
  have HY := Lib.hid hY
  clear hO hD hY
  refine (callsIn_wide (n := 0)).1 ?_
  refine callsIn_of_wp Try.func68 rfl trivial ?_ rfl
  simp only [Try.ntmps68, List.size_toArray, List.length_cons, List.length_nil, Nat.reduceAdd, Nat.reduceSub, Array.replicate_succ, Array.replicate_zero, List.push_toArray, List.append_toArray, List.nil_append, List.cons_append]
  gi_wp2
  gi_loopw [3] (fun p wr => ∃ k : Nat, k ≤ xs.length ∧ p = .int .i64 ((gone : Int) + (k : Int)) ∧ J k wr) (fun p _ => came - (intOf p).toNat)
  case atStart => exact ⟨0, by omega, rfl, h0⟩
  case round =>
    obtain ⟨k, hk, rfl, hJ⟩ := hrel
    obtain ⟨ho1, hb1⟩ := HO.out k wr hJ
    have hc1 := hb1.cell (i := 0) rfl
    have h11 := ho1.blk.cell (i := 1) rfl
    by_cases hlt : k < xs.length
    · gi_wp2_with fail
      rw [show ((gone : Int) + (k : Int)) = ((gone + k : Nat) : Int) from by omega]
      refine ⟨trivial, rfl, callsIn_wide.2 ((place_any wr ho1 (gone + k) (by omega)).mono ?_)⟩
      rintro e w1 ⟨rfl, m, hw1⟩
      have hJ1 : J k w1 := by rw [hw1]; exact HD.out k m wr hJ
      obtain ⟨ho2, hb2⟩ := HO.out k w1 hJ1
      clear hw1 ho1 hb1 hc1 h11 hJ
      obtain ⟨rs, hrl, hrb, hrg⟩ := ho2.ring
      have hg0 := hrg k hlt
      rw [HG.out, List.getElem?_eq_getElem hlt] at hg0
      have hx : ∀ j, j < 4 → (rs.flatMap Item.cells)[(gone + k) % N * 4 + j]? = (xs[k].cells)[j]? := fun j hj => by
        rw [flat_get Item.len rs _ j hj, hg0]
        rfl
      have q0 : w1.cell? ⟨r, (gone + k) % N * 4, none⟩ = _ := hrb.cell (hx 0 (by omega))
      have q1 := hrb.cell (hx 1 (by omega))
      have q2 := hrb.cell (hx 2 (by omega))
      have q3 := hrb.cell (hx 3 (by omega))
      obtain ⟨fn, tmps, assign, body, hy, hR⟩ := HY.out k xs[k] w1 hJ1 (List.getElem?_eq_getElem hlt)
      clear hx hg0 hrl hrg
      gi_wp2_with fail
      refine ⟨rfl, hR.mono ?_⟩
      rintro e w2 (⟨rfl, hJ2⟩ | ⟨rfl, hJx⟩)
      · gi_wp2_with fail
        go_roundw
        case rel => exact ⟨k + 1, by omega, by go_num, hJ2⟩
        case measure => simp [intOf]; omega
      · gi_wp2_with fail
        go_end0
        exact ⟨⟨_, rfl⟩, .inr ⟨k + 1, by omega, hJx⟩⟩
    · obtain rfl : k = xs.length := by omega
      gi_wp2_with fail
      refine ⟨trivial, ?_⟩
      gi_wp2_with fail
      refine ⟨fun _ h => (by cases h), ?_⟩
      gi_wp2_with fail
      go_end0
      exact ⟨⟨_, rfl⟩, .inl hJ⟩

set_option maxRecDepth 100000 in
theorem Try.infoItem2 : (Try.prog.info? 30).map (fun i => (i.zero, i.size, i.bytes)) = some (some (.agg #[.int .i64 0, .int .i64 0, .int .i64 0, .int .i64 0]), 4, 32) := by kernel_rfl

set_option maxRecDepth 100000 in
theorem listed_any (w : World) (B0 b r N came : Nat) (xs : List Item) (ho : Ob w b r N came xs) (hb : Blk w B0 24 [.pointer (some ⟨b, 0, none⟩)]) :
    Calls Try.prog 59 #[.func (.func 68) #[] #[.pointer (some ⟨B0, 0, none⟩)]] w fun e w' => ∃ v, e = .returned v ∧ Sl w' w.heap.size 30 4 v xs.length (xs.flatMap Item.cells) ∧ OnlyIn [] w w' := by
  have hlen := ho.len
  have hle := ho.le
  obtain ⟨i0, hi0, hz0, hz1, hz2⟩ := info_parts Try.infoItem2
  refine (callsIn_wide (n := 0)).1 ?_
  refine callsIn_of_wp_marks Try.func59 rfl trivial ?_ rfl
  simp only [Try.ntmps59, List.size_toArray, List.length_cons, List.length_nil, Nat.reduceAdd, Nat.reduceSub, Array.replicate_succ, Array.replicate_zero, List.push_toArray, List.append_toArray, List.nil_append, List.cons_append]
  gi_wp2_with fail
  have hR := Blk.new w 42 [.slice none 0 0]
  have hs : w.heap.size < (w.alloc (.cells #[.slice none 0 0] 42)).heap.size := by simp
  have ht1 : OnlyIn [] w (w.alloc (.cells #[.slice none 0 0] 42)) := (OnlyIn.refl _ _).alloc _
  obtain ⟨w1, hw1⟩ : ∃ w1, w.alloc (.cells #[.slice none 0 0] 42) = w1 := ⟨_, rfl⟩
  rw [hw1] at hs ht1 ⊢
  have hR1 : Blk w1 w.heap.size 42 [.slice none 0 0] := by rw [← hw1]; exact hR
  clear hw1 hR
  refine wpIn_range2 (gf := 68) (lb := #[.pointer (some ⟨B0, 0, none⟩)]) rfl (enters_of Try.func68 (by kernel_rfl) rfl) ?_
  intro rc hround
  refine (items1_any (w1.heap.size + 1) B0 b r N came xs
    (fun k W => InLoop w1 W (.loop (rc .ready none)) ∧ OnlyIn [] w W ∧ ∃ v, Blk W w.heap.size 42 [v] ∧ Sl W w.heap.size 30 4 v k ((xs.take k).flatMap Item.cells)) (fun _ _ => False) ?hO ?hD ?hY _ ?h0).mono ?_
  case hO =>
    rintro k W ⟨_, ht, _⟩
    exact ⟨ho.only ht (by simp) (by simp), hb.only ht (by simp)⟩
  case hD =>
    rintro k m W ⟨h1, h2, v, h3, h4⟩
    exact ⟨h1.drewN m, h2.drewN m, v, h3.drewN m, h4.drewN m⟩
  case h0 =>
    exact ⟨InLoop.start _ _, (ht1.alloc _).alloc _, _, (hR1.alloc _).alloc _, Sl.nil _ _ _ _⟩
  case hY =>
    rintro k i W ⟨hI, ht, v, hv, hsl⟩ hk
    refine hround _ W _ rfl hI.rec_ ?_
    gi_wp2_with fail
    have hIb := Blk.new W 30 i.cells
    have htb := (OnlyIn.refl [] W).alloc (.cells i.cells.toArray 30)
    have hI1 := hI.only htb (by simp) (by simp)
    have hv1 := hv.only htb (by simp)
    have hsl1 := hsl.only htb (by simp)
    have ht2 := ht.trans htb
    refine ⟨hI1.rec_, ?_⟩
    have hI2 := hI1.put (.loop (rc .busy none))
    have htp : OnlyIn [w1.heap.size + 1] (W.alloc (.cells i.cells.toArray 30)) ((W.alloc (.cells i.cells.toArray 30)).putObj (w1.heap.size + 1) (.loop (rc .busy none))) := (OnlyIn.refl _ _).putObj (.inl (by simp)) _
    obtain ⟨Wb, hWb⟩ : ∃ Wb, W.alloc (.cells i.cells.toArray 30) = Wb := ⟨_, rfl⟩
    rw [hWb] at hI1 hI2 hv1 hsl1 ht2 htp hIb htb
    have hlt : W.heap.size < Wb.heap.size := hIb.lt
    have hWg : w1.heap.size + 1 < W.heap.size := (Array.getElem?_eq_some_iff.1 hI.rec_).1
    obtain ⟨Wc, hWc⟩ : ∃ Wc, Wb.putObj (w1.heap.size + 1) (.loop (rc .busy none)) = Wc := ⟨_, rfl⟩
    have hgoal : (W.alloc (.cells #[.int .i64 i.f, .int .i64 i.g, .int .i64 i.t, .int .i64 i.y] 30)).putObj (w1.heap.size + 1) (.loop (rc .busy none)) = Wc := by rw [← hWc, ← hWb]; rfl
    rw [hgoal]
    rw [hWc] at hI2 htp
    clear hgoal hWc hWb
    have hv2 := hv1.only htp (by simp; omega)
    have hi2 := hIb.only htp (by simp; omega)
    have hsl2 := hsl1.only htp (fun g hg => by
      have := hsl1.type_ g hg
      obtain ⟨cur, hc⟩ := this
      rintro hm
      simp at hm
      subst hm
      rw [hI1.rec_] at hc
      cases hc)
    have ht3 : OnlyIn [] w Wc := ht2.then htp (by simp; omega)
    clear ht2 htp hI1 hsl1 hv1 hIb hI ht hv hsl htb
    have c0 := hv2.cell (i := 0) rfl
    have d0 := hi2.cell (i := 0) rfl
    have d1 := hi2.cell (i := 1) rfl
    have d2 := hi2.cell (i := 2) rfl
    have d3 := hi2.cell (i := 3) rfl
    have hf := hv2.free 0
    have hne := hv2.ne_own hsl2 (by decide)
    have hkl : k < xs.length := (List.getElem?_eq_some_iff.1 hk).1
    have hbs : w.heap.size ≤ Wc.heap.size := ht3.size
    gi_wp2_with (gi_at_builtin; refine wpListIn_append_sl rfl _ _ 42 rfl w.heap.size 30 i0 _ 4 32 Try.underlying42 hi0 hz0 hz1 hz2 rfl (by decide) v k _ rfl (hsl2.alloc _) _ 1 i.cells rfl (Rd.lit Wc i.cells 30 1 rfl) (by simp [Item.cells, Value.oneCell']) (by simp only [maxLen]; omega) (by omega) (by simp; omega) ?_; intro v' w2 hs' hg' hat'; obtain ⟨A, c, rfl, hc⟩ := hs'.val; have hv3 := (hv2.alloc _).grown hg' hne; have c3 := hv3.cell (i := 0) rfl; have f3 := hv3.free 0)
    have hI3 := ((hI2.alloc (.cells #[.int .i64 i.f, .int .i64 i.g, .int .i64 i.t, .int .i64 i.y] 30)).grown hg' (fun g hg => (hsl2.alloc _).type_ g hg |>.imp fun cur h => ⟨_, h⟩)).setCell hv3 0 (.slice A (k + 1) c)
    have ht4 : OnlyIn [] w (w2.setCell ⟨w.heap.size, 0, none⟩ (.slice A (k + 1) c)) := ((ht3.alloc _).grown hg' (fun g hg => .inr (hsl2.own_lt g hg).1)).setCell (.inr (Nat.le_refl _)) _
    have hs2 := hs'.setCell (p := ⟨w.heap.size, 0, none⟩) (hs'.ne_blk hv3 (by decide)) (.slice A (k + 1) c)
    have hv4 := hv3.set 0 (.slice A (k + 1) c)
    refine ⟨hI3.rec_, rfl, hI3.put _, ht4.putObj (.inr (by omega)) _, _, hv4.putObj (by omega) _, ?_⟩
    have hs4 := hs2.only ((OnlyIn.refl [w1.heap.size + 1] _).putObj (l := w1.heap.size + 1) (.inl (by simp)) (.loop (rc .ready none))) (fun g hg => by
      simp only [List.mem_singleton]
      rintro rfl
      exact hs2.ne_obj hI3.rec_ hg)
    have hxk : xs[k]'hkl = i := by
      have := List.getElem?_eq_getElem hkl
      rw [hk] at this
      injection this with this
      exact this.symm
    rw [List.take_succ_eq_append_getElem hkl, hxk, List.flatMap_append]
    simpa using hs4
  rintro e W2 ⟨⟨v, rfl⟩, (⟨hI, ht, v, hv, hsl⟩ | ⟨_, _, hf⟩)⟩
  · refine ⟨⟨_, rfl⟩, .inl ⟨hI.rec_, ?_⟩⟩
    have hI2 := hI.put (.loop (rc .exhausted none))
    have hput : OnlyIn [w1.heap.size + 1] W2 (W2.putObj (w1.heap.size + 1) (.loop (rc .exhausted none))) := (OnlyIn.refl _ _).putObj (.inl (by simp)) _
    have ht2 : OnlyIn [] w (W2.putObj (w1.heap.size + 1) (.loop (rc .exhausted none))) := ht.then hput (by simp; omega)
    have hv2 := hv.only hput (by simp; omega)
    have hs2 := hsl.only hput (fun g hg => by
      simp only [List.mem_singleton]
      rintro rfl
      exact hsl.ne_obj hI.rec_ hg)
    rw [List.take_of_length_le (Nat.le_refl _)] at hs2
    obtain ⟨W3, hW3⟩ : ∃ W3, W2.putObj (w1.heap.size + 1) (.loop (rc .exhausted none)) = W3 := ⟨_, rfl⟩
    rw [hW3] at hI2 ht2 hv2 hs2 ⊢
    clear hput hW3 hv hsl ht hI
    obtain ⟨A, c, rfl, hc⟩ := hs2.val
    have c0 := hv2.cell (i := 0) rfl
    have f0 := hv2.free 0
    gi_wp2_with fail
    have hI3 := hI2.setCell hv2 0 (.slice A xs.length c)
    have hv3 := hv2.set 0 (.slice A xs.length c)
    have ht3 := ht2.setCell (p := ⟨w.heap.size, 0, none⟩) (.inr (Nat.le_refl _)) (.slice A xs.length c)
    have hs3 := hs2.setCell (p := ⟨w.heap.size, 0, none⟩) (hs2.ne_blk hv2 (by decide)) (.slice A xs.length c)
    refine leave_marks (D := w1.heap.size) rfl hI3.dfr (results_one_cell rfl _ rfl (loadVar_slice (hv3.putObj (by omega) _) Try.underlying42)) ?_
    refine ⟨_, rfl, hs3.only ((OnlyIn.refl [w1.heap.size] _).putObj (l := w1.heap.size) (.inl (by simp)) (.deferred none)) (fun g hg => ?_), ht3.putObj (.inr (by omega)) _⟩
    simp only [List.mem_singleton]
    rintro rfl
    obtain ⟨cur, hcc⟩ := hs3.type_ _ hg
    rw [hI3.dfr] at hcc
    cases hcc
  · exact hf.elim

set_option maxRecDepth 100000 in
theorem All_any (w : World) (b r N came : Nat) (xs : List Item) (ho : Ob w b r N came xs) :
    Calls Try.prog 29 #[.pointer (some ⟨b, 0, none⟩)] w fun e w' => ∃ v, e = .returned v ∧ Sl w' w.heap.size 30 4 v xs.length (xs.flatMap Item.cells) ∧ OnlyIn [] w w' := by
  go_enter Try.func29, Try.ntmps29
  go_wp2_with fail
  refine (none_no w ho).mono ?_
  rintro e w' ⟨rfl, rfl⟩
  go_wp2_with fail
  refine (items_any w b).mono ?_
  rintro e w' ⟨rfl, rfl⟩
  go_wp2_with fail
  refine (listed_any _ w.heap.size b r N came xs (ho.alloc _) (Blk.new w 24 [.pointer (some ⟨b, 0, none⟩)])).mono ?_
  rintro e w1 ⟨v, rfl, hs, ht⟩
  have ht1 := ((OnlyIn.refl [] w).alloc (.cells [.pointer (some ⟨b, 0, none⟩)].toArray 24)).trans ht
  have hs1 := hs.mono (base' := w.heap.size) (by simp)
  clear ht hs
  go_wp2_with fail
  go_ret
  exact ⟨v, rfl, hs1, ht1⟩

set_option maxRecDepth 100000 in
theorem Ob.cleared {w : World} {b r N came : Nat} {l : List Item} (h : Ob w b r N came l) : Ob (w.setCell ⟨b, 2, none⟩ (.int .i64 (came : Int))) b r N came [] := by
  obtain ⟨rs, hrl, hrb, hrg⟩ := h.ring
  exact ⟨h.pos, h.le, by simp, by simp, h.small, h.blk.set 2 (.int .i64 (came : Int)), rs, hrl, hrb.far (p := ⟨b, 2, none⟩) (Ne.symm h.ne_) _, by simp⟩

set_option maxRecDepth 100000 in
theorem Clear_any (w : World) (b r N came : Nat) (xs : List Item) (ho : Ob w b r N came xs) :
    Calls Try.prog 24 #[.pointer (some ⟨b, 0, none⟩)] w fun e w' => ∃ v, e = .returned v ∧ Sl w' w.heap.size 30 4 v xs.length (xs.flatMap Item.cells) ∧ Ob w' b r N came [] ∧ OnlyIn [b] w w' := by
  go_enter Try.func24, Try.ntmps24
  go_wp2_with fail
  refine (All_any w b r N came xs ho).mono ?_
  rintro e w1 ⟨v, rfl, hs, ht⟩
  have ho1 := ho.only ht (by simp) (by simp)
  have hbl := ho.blk.lt
  clear ho
  obtain ⟨A, c, rfl, hc⟩ := hs.val
  go_wp2_with fail
  refine (none_no w1 ho1).mono ?_
  rintro e w' ⟨rfl, rfl⟩
  have c1 := ho1.blk.cell (i := 1) rfl
  have c2 := ho1.blk.cell (i := 2) rfl
  have f2 := ho1.blk.free 2
  go_wp2_with fail
  go_ret
  refine ⟨_, rfl, hs.setCell (p := ⟨b, 2, none⟩) (hs.ne_blk ho1.blk (by decide)) _, ho1.cleared, ?_⟩
  exact (ht.mono (by simp)).setCell (.inl (by simp)) _

end Go.Proofs.Ytcgbafdagckgcaa
