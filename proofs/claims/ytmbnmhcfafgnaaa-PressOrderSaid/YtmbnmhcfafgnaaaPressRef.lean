/-
  The reference of press: Check, Held, first, Victim.
-/
import Derived.Test.YtmbnmhcfafgnaaaPressFns
import Derived.Test.YtmbnmhcfafgnaaaPressPlan
namespace Go.Proofs.Ytmbnmhcfafgnaaa
open Go.RowKit Go.Mine

set_option maxRecDepth 100000 in
set_option maxHeartbeats 4000000 in
theorem rCheck_any (W : World) (A : Option Addr) (n c : Nat) (l : List Holder) (h : Rd W 2 (.slice A n c) n (hcs l)) (hn : l.length = n) (hnc : n ≤ c) :
    Calls Try.prog 20 #[.slice A n c] W fun e w' => e = .returned (.int .i64 (checkF l)) ∧ OnlyIn [] W w' := by
  have HR := Lib.hid (And.intro h hn)
  by_cases h64 : 64 < n
  · rw [checkF_bad (fun hO => by have := hO.1; omega)]
    have hd : decide ((64 : Int) < (n : Int)) = true := decide_eq_true (by omega)
    clear h hn
    go_enter Try.func20, Try.ntmps20
    go_wp2_with fail
    go_ret
    exact ⟨rfl, OnlyIn.refl _ _⟩
  have hd : decide ((64 : Int) < (n : Int)) = false := decide_eq_false (by omega)
  clear h hn
  go_enter Try.func20, Try.ntmps20
  go_wp2_with fail
  go_loopw [3, 4] (fun i _ wr => ∃ k : Nat, k ≤ n ∧ i = .int .i64 (k : Int) ∧ Hid (OkE (l.take k)) ∧ OnlyIn [] W wr) (fun i _ _ => n - (intOf i).toNat)
  case atStart => exact ⟨0, by omega, rfl, Lib.hid OkE.nil, OnlyIn.refl _ _⟩
  case round =>
    obtain ⟨k, hk, rfl, HK, hto⟩ := hrel
    by_cases hlt : k < n
    · have hkl : k < l.length := by rw [HR.out.2]; exact hlt
      obtain ⟨x, hx⟩ : ∃ x, l[k]'hkl = x := ⟨_, rfl⟩
      obtain ⟨g, off, rfl, a0, a1⟩ := rd_hold (HR.out.1.cells (w' := wr) fun p u hp => hto.cell hp (by simp)) HR.out.2 (k := k) (x := x) (by rw [List.getElem?_eq_getElem hkl, hx])
      have hbad := bad_at hkl
      have hstep := ok_step hkl HK.out
      rw [hx] at hbad hstep
      obtain ⟨xi, hxi⟩ : ∃ z, x.id = z := ⟨_, rfl⟩
      obtain ⟨xf, hxf⟩ : ∃ z, x.fr = z := ⟨_, rfl⟩
      rw [hxi] at a0 hbad hstep
      rw [hxf] at a1 hbad hstep
      have HQ := Lib.hid (And.intro hbad (And.intro hstep hto))
      clear hbad hstep hto hx hkl hxi hxf HK
      by_cases h1 : 1 ≤ xi
      · have d1 : decide (xi < 1) = false := decide_eq_false (by omega)
        by_cases h2 : 0 ≤ xf
        · have d2 : decide (xf < 0) = false := decide_eq_false (by omega)
          by_cases h3 : xf ≤ 64
          · have d3 : decide ((64 : Int) < xf) = false := decide_eq_false (by omega)
            go_wp2_with fail
            go_loopw [4] (fun j w2 => ∃ q : Nat, q ≤ k ∧ j = .int .i64 (q : Int) ∧ Hid (xi ∉ (l.take q).map (·.id)) ∧ OnlyIn [] wr w2) (fun j _ => k - (intOf j).toNat)
            case atStart => exact ⟨0, by omega, rfl, Lib.hid (by simp), OnlyIn.refl _ _⟩
            case round =>
              obtain ⟨q, hq, rfl, HX, ht2⟩ := hrel
              by_cases hqk : q < k
              · have hql : q < l.length := by rw [HR.out.2]; omega
                obtain ⟨y, hy⟩ : ∃ y, l[q]'hql = y := ⟨_, rfl⟩
                obtain ⟨g', off', he, b0, -⟩ := rd_hold (HR.out.1.cells (w' := wr) fun p u hp => (HQ.out.2.2.trans ht2).cell hp (by simp)) HR.out.2 (k := q) (x := y) (by rw [List.getElem?_eq_getElem hql, hy])
                injection he with he
                injection he with e1 e2 _
                subst e1 e2
                have a0 := ht2.cell a0 (by simp)
                have htk := take_snoc l hql
                rw [hy] at htk
                obtain ⟨yi, hyi⟩ : ∃ z, y.id = z := ⟨_, rfl⟩
                rw [hyi] at b0
                have hqn : q < n := by omega
                have hym : yi ∈ (l.take k).map (·.id) := by
                  rw [← hyi, List.mem_map]
                  exact ⟨y, by rw [← hy]; exact List.mem_take_iff_getElem.2 ⟨q, by omega, rfl⟩, rfl⟩
                by_cases he : yi = xi
                · subst he
                  have b : (yi == yi) = true := by simp
                  have HB := Lib.hid (checkF_bad (HQ.out.1 fun h => h.2 hym))
                  have HT := Lib.hid (HQ.out.2.2.trans ht2)
                  clear htk hy hyi hym ht2
                  go_wp2_with fail
                  go_quiet (fail)
                  go_wp2_with fail
                  go_ret
                  exact ⟨by rw [HB.out]; rfl, HT.out.drewN _⟩
                · have b : (yi == xi) = false := by simpa using he
                  have HM := Lib.hid (show xi ∉ (l.take (q + 1)).map (·.id) by rw [htk, List.map_append, List.map_cons, List.map_nil, hyi]; simp only [List.mem_append, List.mem_singleton, not_or]; exact ⟨HX.out, fun e => he e.symm⟩)
                  have HT := Lib.hid ht2
                  clear htk hy hyi he hym ht2
                  go_wp2_with fail
                  go_quiet (fail)
                  go_wp2_with fail
                  go_roundw
                  case rel => exact ⟨q + 1, by omega, by go_num, HM, HT.out.drewN _⟩
                  case measure => simp [intOf]; omega
              · obtain rfl : q = k := by omega
                have HS := Lib.hid (HQ.out.2.1 ⟨⟨h1, h2, h3⟩, HX.out⟩)
                have HT := Lib.hid (HQ.out.2.2.trans ht2)
                clear ht2
                go_wp2_with fail
                go_roundw
                case rel => exact ⟨q + 1, by omega, by go_num, HS, HT.out⟩
                case measure => simp [intOf]; omega
          · have d3 : decide ((64 : Int) < xf) = true := decide_eq_true (by omega)
            have HB := Lib.hid (checkF_bad (HQ.out.1 fun h => h3 h.1.2.2))
            go_wp2_with fail
            go_ret
            exact ⟨by rw [HB.out]; rfl, HQ.out.2.2⟩
        · have d2 : decide (xf < 0) = true := decide_eq_true (by omega)
          have HB := Lib.hid (checkF_bad (HQ.out.1 fun h => h2 h.1.2.1))
          go_wp2_with fail
          go_ret
          exact ⟨by rw [HB.out]; rfl, HQ.out.2.2⟩
      · have d1 : decide (xi < 1) = true := decide_eq_true (by omega)
        have HB := Lib.hid (checkF_bad (HQ.out.1 fun h => h1 h.1.1))
        go_wp2_with fail
        go_ret
        exact ⟨by rw [HB.out]; rfl, HQ.out.2.2⟩
    · obtain rfl : n = k := by omega
      have hok := HK.out
      rw [List.take_of_length_le (by rw [HR.out.2]; exact Nat.le_refl _)] at hok
      have HB := Lib.hid (checkF_ok ⟨by rw [HR.out.2]; omega, hok⟩)
      have HT := Lib.hid hto
      clear hok hto
      go_wp2_with fail
      go_ret
      exact ⟨by rw [HB.out]; rfl, HT.out⟩

set_option maxRecDepth 100000 in
set_option maxHeartbeats 2000000 in
theorem rHeld_any (W : World) (A : Option Addr) (n c : Nat) (l : List Holder) (h : Rd W 2 (.slice A n c) n (hcs l)) (hn : l.length = n) (hnc : n ≤ c) :
    Calls Try.prog 22 #[.slice A n c] W fun e w' => e = .returned (.int .i64 (heldF l)) ∧ OnlyIn [] W w' := by
  have HCH := Lib.hid (fun w1 (ho : OnlyIn [] W w1) => rCheck_any w1 A n c l (h.cells fun p u hp => ho.cell hp (by simp)) hn hnc)
  unfold heldF
  rcases checkF_cases l with ⟨hO, e⟩ | ⟨hO, e⟩
  · rw [if_pos hO]
    rw [e] at HCH
    have hn64 : n ≤ 64 := by rw [← hn]; exact hO.1
    have hsb := fun k => sumF_bound (l := l.take k) (fun x hx => (hO.2.1 x (List.mem_of_mem_take hx)).2)
    have hst := fun k (hk : k < l.length) => sumF_take hk
    have HR := Lib.hid (And.intro h (And.intro hn (And.intro hsb (And.intro hst hO))))
    clear h hn hO e hsb hst
    go_enter Try.func22, Try.ntmps22
    go_wp2_with fail
    go_loopw [3, 4] (fun s i wr => ∃ k : Nat, k ≤ n ∧ s = .int .i64 (sumF (l.take k)) ∧ i = .int .i64 (k : Int) ∧ OnlyIn [] W wr) (fun _ i _ => n - (intOf i).toNat)
    case atStart => exact ⟨0, by omega, rfl, rfl, OnlyIn.refl _ _⟩
    case round =>
      obtain ⟨k, hk, rfl, rfl, hto⟩ := hrel
      have hch := HCH.out wr hto
      by_cases hlt : k < n
      · obtain ⟨h, hn, hsb, hst, hO⟩ := HR.out
        have hkl : k < l.length := by omega
        obtain ⟨x, hx⟩ : ∃ x, l[k]'hkl = x := ⟨_, rfl⟩
        obtain ⟨g, off, rfl, a0, a1⟩ := rd_hold (h.cells (w' := wr) fun p u hp => hto.cell hp (by simp)) hn (k := k) (x := x) (by rw [List.getElem?_eq_getElem hkl, hx])
        have hb := hsb k
        rw [List.length_take] at hb
        have hs1 := hst k hkl
        rw [hx] at hs1
        have hxb := hO.2.1 x (by rw [← hx]; exact List.getElem_mem hkl)
        obtain ⟨xf, hxf⟩ : ∃ z, x.fr = z := ⟨_, rfl⟩
        rw [hxf] at a1 hs1 hxb
        obtain ⟨s, hs⟩ : ∃ s, sumF (l.take k) = s := ⟨_, rfl⟩
        rw [hs] at hb hs1 ⊢
        have hw : IntKind.i64.wrap (s + xf) = s + xf := by rw [IntKind.wrap_i64]; omega
        have HT := Lib.hid (And.intro hs1 hto)
        clear h hn hsb hst hO hkl hx hxf hs hs1 hto a0
        go_wp2_with (go_at_call 20; refine hch.mono ?_; rintro e w1 ⟨rfl, ht⟩; have a2 := ht.cell a1 (by simp))
        go_roundw
        case rel => exact ⟨k + 1, by omega, by rw [HT.out.1], by go_num, HT.out.2.trans ht⟩
        case measure => simp [intOf]; omega
      · obtain rfl : n = k := by omega
        rw [List.take_of_length_le (by rw [HR.out.2.1]; exact Nat.le_refl _)]
        obtain ⟨s, hs⟩ : ∃ s, sumF l = s := ⟨_, rfl⟩
        rw [hs]
        have HT := Lib.hid (And.intro hto hs)
        clear hto hs hch
        go_wp2_with fail
        go_ret
        exact ⟨by rw [HT.out.2]; rfl, HT.out.1⟩
  · rw [if_neg hO]
    rw [e] at HCH
    clear hO e h hn
    go_enter Try.func22, Try.ntmps22
    go_wp2_with fail
    go_loopw [3, 4] (fun s i wr => s = .int .i64 0 ∧ i = .int .i64 0 ∧ OnlyIn [] W wr) (fun _ _ _ => 0)
    case atStart => exact ⟨rfl, rfl, OnlyIn.refl _ _⟩
    case round =>
      obtain ⟨rfl, rfl, hto⟩ := hrel
      have hch := HCH.out wr hto
      have HT := Lib.hid hto
      clear hto
      by_cases h0 : 0 < n
      · have hd : decide ((0 : Int) < (n : Int)) = true := decide_eq_true (by omega)
        go_wp2_with (go_at_call 20; refine hch.mono ?_; rintro e w1 ⟨rfl, ht⟩)
        go_ret
        exact ⟨rfl, HT.out.trans ht⟩
      · have hd : decide ((0 : Int) < (n : Int)) = false := decide_eq_false (by omega)
        clear hch
        go_wp2_with fail
        go_ret
        exact ⟨rfl, HT.out⟩

set_option maxRecDepth 100000 in
set_option maxHeartbeats 4000000 in
theorem rFirst_any (W : World) (A : Option Addr) (n c : Nat) (l : List Holder) (h : Rd W 2 (.slice A n c) n (hcs l)) (hn : l.length = n) (hnc : n ≤ c) (hb : n ≤ 1000000000) :
    Calls Try.prog 51 #[.slice A n c] W fun e w' => e = .returned (.int .i64 (atF (firstTo l n))) ∧ OnlyIn [] W w' := by
  have HR := Lib.hid (And.intro h hn)
  clear h hn
  go_enter Try.func51, Try.ntmps51
  go_wp2_with fail
  go_loopw [3, 4] (fun a i wr => ∃ k : Nat, k ≤ n ∧ a = .int .i64 (atF (firstTo l k)) ∧ i = .int .i64 (k : Int) ∧ OnlyIn [] W wr) (fun _ i _ => n - (intOf i).toNat)
  case atStart => exact ⟨0, by omega, rfl, rfl, OnlyIn.refl _ _⟩
  case round =>
    obtain ⟨k, hk, rfl, rfl, hto⟩ := hrel
    by_cases hlt : k < n
    · have hkl : k < l.length := by rw [HR.out.2]; exact hlt
      obtain ⟨x, hx⟩ : ∃ x, l[k]'hkl = x := ⟨_, rfl⟩
      have hgx : l[k]? = some x := by rw [List.getElem?_eq_getElem hkl, hx]
      have hdx : l.getD k ⟨0, 0⟩ = x := by rw [List.getD_eq_getElem?_getD, hgx]; rfl
      obtain ⟨g, off, rfl, a0, a1⟩ := rd_hold (HR.out.1.cells (w' := wr) fun p u hp => hto.cell hp (by simp)) HR.out.2 hgx
      have hstep : firstTo l (k + 1) = match firstTo l k with
        | none => if 0 < x.fr then some k else none
        | some a => if 0 < x.fr ∧ ltH x (l.getD a ⟨0, 0⟩) = true then some k else some a := by rw [firstTo, hdx]; cases firstTo l k <;> rfl
      have HT := Lib.hid hto
      clear hto hx hgx hdx
      by_cases h0 : 0 < x.fr
      · cases hf : firstTo l k with
        | none =>
          rw [hf] at hstep
          simp only [if_pos h0] at hstep
          obtain ⟨xf, hxf⟩ : ∃ z, x.fr = z := ⟨_, rfl⟩
          rw [hxf] at a1 h0
          have d1 : decide (0 < xf) = true := decide_eq_true h0
          have HS := Lib.hid hstep
          simp only [atF]
          clear hstep hf hxf a0
          go_wp2_with fail
          go_quiet (fail)
          go_wp2_with fail
          go_roundw
          case rel => exact ⟨k + 1, by omega, by rw [HS.out], by go_num, HT.out.drewN _⟩
          case measure => simp [intOf]; omega
        | some a =>
          have hak := firstTo_lt hf
          have hal : a < l.length := by omega
          have hgy : l[a]? = some (l[a]'hal) := List.getElem?_eq_getElem hal
          have hdy : l.getD a ⟨0, 0⟩ = l[a]'hal := by rw [List.getD_eq_getElem?_getD, hgy]; rfl
          obtain ⟨y, hy⟩ : ∃ y, l[a]'hal = y := ⟨_, rfl⟩
          rw [hy] at hgy hdy
          obtain ⟨g', off', he, b0, b1⟩ := rd_hold (HR.out.1.cells (w' := wr) fun p u hp => HT.out.cell hp (by simp)) HR.out.2 hgy
          injection he with he
          injection he with e1 e2 _
          subst e1 e2
          rw [hf] at hstep
          simp only [hdy] at hstep
          have hlt2 : ltH x y = true ↔ y.fr < x.fr ∨ (x.fr = y.fr ∧ x.id < y.id) := ltH_iff x y
          obtain ⟨xf, hxf⟩ : ∃ z, x.fr = z := ⟨_, rfl⟩
          obtain ⟨xi, hxi⟩ : ∃ z, x.id = z := ⟨_, rfl⟩
          obtain ⟨yf, hyf⟩ : ∃ z, y.fr = z := ⟨_, rfl⟩
          obtain ⟨yi, hyi⟩ : ∃ z, y.id = z := ⟨_, rfl⟩
          rw [hxf, hxi, hyf, hyi] at hlt2
          rw [hxf] at a1 h0 hstep
          rw [hxi] at a0
          rw [hyf] at b1
          rw [hyi] at b0
          have d1 : decide (0 < xf) = true := decide_eq_true h0
          have d2 : decide ((a : Int) < 0) = false := decide_eq_false (by omega)
          have han : a < n := by omega
          simp only [atF]
          clear hf hxf hxi hyf hyi hy hgy hdy hal
          by_cases hc1 : yf < xf
          · rw [if_pos ⟨h0, hlt2.2 (.inl hc1)⟩] at hstep
            have d3 : decide (yf < xf) = true := decide_eq_true hc1
            have HS := Lib.hid hstep
            clear hstep hlt2
            go_wp2_with fail
            go_quiet (fail)
            go_wp2_with fail
            go_roundw
            case rel => exact ⟨k + 1, by omega, by rw [HS.out], by go_num, HT.out.drewN _⟩
            case measure => simp [intOf]; omega
          · have d3 : decide (yf < xf) = false := decide_eq_false hc1
            by_cases hc2 : xf = yf
            · subst hc2
              have d4 : (xf == xf) = true := by simp
              by_cases hc3 : xi < yi
              · rw [if_pos ⟨h0, hlt2.2 (.inr ⟨rfl, hc3⟩)⟩] at hstep
                have d5 : decide (xi < yi) = true := decide_eq_true hc3
                have HS := Lib.hid hstep
                clear hstep hlt2
                go_wp2_with fail
                go_quiet (fail)
                go_wp2_with fail
                go_roundw
                case rel => exact ⟨k + 1, by omega, by rw [HS.out], by go_num, HT.out.drewN _⟩
                case measure => simp [intOf]; omega
              · rw [if_neg (fun h => by have := hlt2.1 h.2; omega)] at hstep
                have d5 : decide (xi < yi) = false := decide_eq_false hc3
                have HS := Lib.hid hstep
                clear hstep hlt2
                go_wp2_with fail
                go_quiet (fail)
                go_wp2_with fail
                go_roundw
                case rel => exact ⟨k + 1, by omega, by rw [HS.out], by go_num, HT.out.drewN _⟩
                case measure => simp [intOf]; omega
            · rw [if_neg (fun h => by have := hlt2.1 h.2; omega)] at hstep
              have d4 : (xf == yf) = false := by simpa using hc2
              have HS := Lib.hid hstep
              clear hstep hlt2
              go_wp2_with fail
              go_quiet (fail)
              go_wp2_with fail
              go_roundw
              case rel => exact ⟨k + 1, by omega, by rw [HS.out], by go_num, HT.out.drewN _⟩
              case measure => simp [intOf]; omega
      · have hsame : firstTo l (k + 1) = firstTo l k := by
          rw [hstep]
          cases firstTo l k with
          | none => rw [if_neg h0]
          | some a => simp only; rw [if_neg (fun h => h0 h.1)]
        obtain ⟨xf, hxf⟩ : ∃ z, x.fr = z := ⟨_, rfl⟩
        rw [hxf] at a1 h0
        have d1 : decide (0 < xf) = false := decide_eq_false h0
        obtain ⟨z, hz⟩ : ∃ z, atF (firstTo l k) = z := ⟨_, rfl⟩
        rw [hz]
        have HS := Lib.hid (And.intro hsame hz)
        clear hstep hsame hxf a0 hz
        go_wp2_with fail
        go_quiet (fail)
        go_wp2_with fail
        go_roundw
        case rel => exact ⟨k + 1, by omega, by rw [HS.out.1, HS.out.2], by go_num, HT.out.drewN _⟩
        case measure => simp [intOf]; omega
    · obtain rfl : n = k := by omega
      obtain ⟨z, hz⟩ : ∃ z, atF (firstTo l n) = z := ⟨_, rfl⟩
      rw [hz]
      have HT := Lib.hid (And.intro hto hz)
      clear hto hz
      go_wp2_with fail
      go_ret
      exact ⟨by rw [HT.out.2]; rfl, HT.out.1⟩

set_option maxRecDepth 100000 in
theorem rVictim_any (W : World) (A : Option Addr) (n c : Nat) (l : List Holder) (h : Rd W 2 (.slice A n c) n (hcs l)) (hn : l.length = n) (hnc : n ≤ c) :
    Calls Try.prog 15 #[.slice A n c] W fun e w' => e = .returned (.tuple #[.int .i64 (victimF l).1, .int .i64 (victimF l).2]) ∧ OnlyIn [] W w' := by
  have hch := rCheck_any W A n c l h hn hnc
  unfold victimF
  rcases checkF_cases l with ⟨hO, e⟩ | ⟨hO, e⟩
  · rw [if_pos hO]
    rw [e] at hch
    have hn64 : n ≤ 64 := by rw [← hn]; exact hO.1
    have hfi := fun w1 (ho : OnlyIn [] W w1) => rFirst_any w1 A n c l (h.cells fun p u hp => ho.cell hp (by simp)) hn hnc (by omega)
    rcases victim_head hO with ⟨hv, hf⟩ | ⟨a, ha, hf, r, hv⟩
    · rw [hn] at hf
      rw [hf] at hfi
      rw [hv]
      simp only [atF] at hfi ⊢
      clear h hO e hv hf hn
      go_enter Try.func15, Try.ntmps15
      go_wp2_with (first | (go_at_call 20; refine hch.mono ?_; rintro e w1 ⟨rfl, ht⟩; clear hch) | (go_at_call 51; refine (hfi _ ht).mono ?_; rintro e w2 ⟨rfl, ht2⟩))
      go_ret2
      exact ⟨rfl, ht.trans ht2⟩
    · have hgx : l[a]? = some (l[a]'ha) := List.getElem?_eq_getElem ha
      obtain ⟨x, hx⟩ : ∃ x, l[a]'ha = x := ⟨_, rfl⟩
      rw [hx] at hgx hv
      obtain ⟨g, off, rfl, a0, -⟩ := rd_hold h hn hgx
      rw [hn] at hf ha
      rw [hf] at hfi
      rw [hv]
      simp only [atF] at hfi ⊢
      have d : decide ((a : Int) < 0) = false := decide_eq_false (by omega)
      clear h hO e hv hf hn hgx hx
      go_enter Try.func15, Try.ntmps15
      go_wp2_with (first | (go_at_call 20; refine hch.mono ?_; rintro e w1 ⟨rfl, ht⟩; clear hch) | (go_at_call 51; refine (hfi _ ht).mono ?_; rintro e w2 ⟨rfl, ht2⟩; have a1 := (ht.trans ht2).cell a0 (by simp)))
      go_ret2
      exact ⟨rfl, ht.trans ht2⟩
  · rw [if_neg hO]
    rw [e] at hch
    clear h hO e hn
    go_enter Try.func15, Try.ntmps15
    go_wp2_with (go_at_call 20; refine hch.mono ?_; rintro e w1 ⟨rfl, ht⟩; clear hch)
    go_ret2
    exact ⟨rfl, ht⟩
end Go.Proofs.Ytmbnmhcfafgnaaa
