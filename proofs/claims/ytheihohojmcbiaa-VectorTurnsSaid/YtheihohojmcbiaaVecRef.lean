/-
  The reference for layer 6.
-/
import Derived.Test.YtheihohojmcbiaaVec2
import Derived.Test.YtheihohojmcbiaaRefGet03
namespace Go.Mine
open Go.RowKit
theorem turn_hit {p t d : Int} (hp : partP p) (ht : partP t) (h1 : -16 ≤ d) (h2 : d ≤ 15) : (turnF p d = (t, 0)) ↔ d = (t - p + 80) % 32 - 16 := by
  unfold turnF
  rw [if_pos ⟨hp, h1, h2⟩]
  by_cases a1 : partP (p + d)
  · rw [if_pos a1]; simp only [Prod.mk.injEq, and_true]; unfold partP at *; omega
  · rw [if_neg a1]
    by_cases a2 : partP (p + d + 32)
    · rw [if_pos a2]; simp only [Prod.mk.injEq, and_true]; unfold partP at *; omega
    · rw [if_neg a2]
      by_cases a3 : partP (p + d - 32)
      · rw [if_pos a3]; simp only [Prod.mk.injEq, and_true]; unfold partP at *; omega
      · rw [if_neg a3]; simp only [Prod.mk.injEq]; unfold partP at *; omega
end Go.Mine
namespace Go.Proofs.Ytheihohojmcbiaa
open Go.RowKit Go.Mine Go.Shelf

set_option maxRecDepth 100000 in
theorem rvcodes_any (w : World) : Calls Try.prog 61 #[] w fun e w' => ∃ g, e = .returned (.slice (some ⟨g, 0, none⟩) 32 32) ∧ Rd w' 1 (.slice (some ⟨g, 0, none⟩) 32 32) vcodes.length (txtCells vcodes) ∧ OnlyIn [] w w' := by
  go_enter Try.func61, Try.ntmps61
  go_wp2_with fail
  go_ret
  exact ⟨_, rfl, Rd.lit (size := 1) w (txtCells vcodes) 9 32 rfl, (OnlyIn.refl _ _).alloc _⟩

set_option maxRecDepth 100000 in
theorem rvnums_any (w : World) : Calls Try.prog 62 #[] w fun e w' => ∃ v, e = .returned v ∧ Rd w' 1 v vnums.length (intCells vnums) ∧ OnlyIn [] w w' := by
  obtain ⟨j0, hj0, hy0, hy1, hy2⟩ := info_parts Try.infoIC
  go_enter Try.func62, Try.ntmps62
  go_wp2_with fail
  go_loopw [1, 2] (fun nv d wr => ∃ k : Nat, k ≤ 32 ∧ d = .int .i64 ((k : Int) - 16) ∧ Sl wr w.heap.size 3 1 nv k (intCells (vnums.take k)) ∧ OnlyIn [] w wr) (fun _ d _ => (16 - intOf d).toNat)
  case atStart => exact ⟨0, by omega, rfl, Sl.nil _ _ _ _, OnlyIn.refl _ _⟩
  case round =>
    obtain ⟨k, hk, rfl, hs2, hto⟩ := hrel
    obtain ⟨A2, c2, rfl, _⟩ := hs2.val
    by_cases hlt : k < 32
    · have HTK := Lib.hid (vtake hlt).2
      have hs2a := hs2.alloc (.cells #[.int .i64 ((k : Int) - 16)] 3)
      have hrd := Rd.lit (size := 1) wr [.int .i64 ((k : Int) - 16)] 3 1 rfl
      have HT := Lib.hid hto
      have hbs := hto.size
      have dlt : decide ((k : Int) - 16 ≤ 15) = true := decide_eq_true (by omega)
      clear hs2 hto
      go_wp2_with (at_builtin; refine wpList_append_sl rfl _ _ 41 rfl w.heap.size 3 j0 _ 1 8 Try.underlying41 hj0 hy0 hy1 hy2 rfl (by decide) (.slice A2 k c2) _ _ rfl hs2a _ 1 _ rfl hrd (by simp [Value.oneCell']) (by simp only [maxLen]; omega) (by omega) (by simp; omega) ?_; intro v2 w2 hsB hgB hatB)
      go_roundw
      case rel => exact ⟨k + 1, by omega, by go_num, by rw [HTK.out]; exact hsB, (HT.out.alloc _).grown hgB (fun g hg => .inr (hs2a.own_lt g hg).1)⟩
      case measure => simp [intOf]; omega
    · obtain rfl : k = 32 := by omega
      have HT := Lib.hid (And.intro hs2 hto)
      clear hs2 hto
      go_wp2_with fail
      go_ret
      exact ⟨_, rfl, Rd.of_sl HT.out.1, HT.out.2⟩

set_option maxRecDepth 100000 in
set_option maxHeartbeats 2000000 in
theorem rvGet_any (w : World) (v : Value) (bs : List UInt8) (hr : Rd w 1 v bs.length (byteCells bs)) (hl : bs.length ≤ 1000000000) (i : Int) (hi : i ≤ 9223372036854775807) :
    Calls Try.prog 33 #[v, .int .i64 i] w fun e w' => e = .returned (.tuple #[.int .i64 (getT VT bs i).1, .int .i64 (getT VT bs i).2.1, .int .i64 (getT VT bs i).2.2]) ∧ OnlyIn [] w w' := by
  have hc := rvcodes_any w
  have hn := fun w => rvnums_any w
  obtain ⟨A, c, rfl⟩ : ∃ A c, v = .slice A bs.length c := by
    obtain ⟨-, A, c, rfl, -⟩ := hr
    exact ⟨A, c, rfl⟩
  have hm := fun w2 {u} {g : Nat} (h1 : Rd w2 1 (.slice (some ⟨g, 0, none⟩) 32 32) vcodes.length (txtCells vcodes)) (h2 : Rd w2 1 u vnums.length (intCells vnums)) => (rMake_any w2 _ u vcodes vnums h1 h2 (by decide) (by decide) (by decide)).mono (R' := fun e w' => ∃ b tv tu, e = .returned (.tuple #[.pointer (some ⟨b, 0, none⟩), .int .i64 0]) ∧ RT w' w2.heap.size b tv tu vcodes vnums ∧ OnlyIn [] w2 w') (fun e w' ⟨ho2, h⟩ => by
    rcases h with ⟨hbad, -⟩ | ⟨-, ⟨hcl, -⟩ | ⟨-, b, tv, tu, he, hRT⟩⟩
    · exfalso
      rcases hbad with hbad | hbad | hbad | hbad
      · exact hbad (by decide)
      · exact absurd hbad (by decide)
      · exact absurd hbad (by decide)
      · rw [vcodes_ok] at hbad; cases hbad
    · exfalso
      rcases build_iff (cs := vcodes) (ns := vnums) (by decide) vcodes_ok with ⟨h, -⟩ | ⟨t, lab, -, h, -⟩
      · rw [vbuild] at h; cases h
      · exact h hcl
    · exact ⟨b, tv, tu, he, hRT, ho2⟩)
  have hg := fun w1 {base b tv tu} (ho : OnlyIn [] w w1) (hT : RT w1 base b tv tu vcodes vnums) => rGetT w1 hT (by decide) (by decide) (by decide) (by decide) vcodes_ok vbuild _ bs (hr.cells fun p u hp => ho.cell hp (by simp)) hl i hi
  obtain ⟨⟨x, m, er⟩, hx⟩ : ∃ x, getT VT bs i = x := ⟨_, rfl⟩
  rw [hx] at hg ⊢
  simp only at hg ⊢
  clear hx hr
  go_enter Try.func33, Try.ntmps33
  go_wp2_with (first | (go_at_call 61; refine hc.mono ?_; rintro e w1 ⟨g, rfl, hv, h1⟩) | (go_at_call 62; refine (hn _).mono ?_; rintro e w2 ⟨u, rfl, hu, h2⟩; have hv2 := hv.cells (w' := w2) (fun p u hp => h2.cell hp (by simp))) | (go_at_call 60; refine (hm _ hv2 hu).mono ?_; rintro e w3 ⟨b, tv, tu, rfl, hT, h3⟩) | (go_at_call 51; refine (hg _ ((h1.trans h2).trans h3) hT).mono ?_; rintro e w4 ⟨rfl, h4⟩))
  go_ret3
  exact ⟨rfl, ((h1.trans h2).trans h3).trans h4⟩

set_option maxRecDepth 100000 in
theorem rvPut_any (w : World) (d : Int) : Calls Try.prog 35 #[.int .i64 d] w fun e w' => e = .returned (.tuple #[.string (vputF d).1, .int .i64 (vputF d).2]) ∧ OnlyIn [] w w' := by
  unfold vputF
  by_cases h1 : d < -16
  · rw [if_neg (by omega)]
    go_enter Try.func35, Try.ntmps35
    go_wp2_with fail
    go_ret2
    exact ⟨rfl, OnlyIn.refl _ _⟩
  · by_cases h2 : 15 < d
    · rw [if_neg (by omega)]
      go_enter Try.func35, Try.ntmps35
      go_wp2_with fail
      go_ret2
      exact ⟨rfl, OnlyIn.refl _ _⟩
    · rw [if_pos (by omega)]
      have hc := rvcodes_any w
      obtain ⟨k, hk⟩ : ∃ k : Nat, d + 16 = (k : Int) := Int.eq_ofNat_of_zero_le (by omega)
      have hcell : ∀ w1 g, Rd w1 1 (.slice (some ⟨g, 0, none⟩) 32 32) vcodes.length (txtCells vcodes) → w1.cell? ⟨g, k, none⟩ = some (.string (str (vc d))) := by
        rintro w1 g ⟨-, A, c, hv, -, hA⟩
        injection hv with hv _ _
        subst hv
        obtain ⟨g', off, e1, e2⟩ := hA (by decide)
        injection e1 with e1
        injection e1 with e1 e3 _
        subst e1
        subst e3
        have hkl : k < vcodes.length := by have : vcodes.length = 32 := rfl; omega
        have := e2 k _ (txtCells_get hkl)
        rw [Nat.zero_add] at this
        rw [this]
        unfold vc
        rw [hk, Int.toNat_natCast, List.getD_eq_getElem?_getD, List.getElem?_eq_getElem hkl]
        rfl
      obtain ⟨s, hs⟩ : ∃ s, str (vc d) = s := ⟨_, rfl⟩
      rw [hs] at hcell ⊢
      have hk32 : (k : Int) < 32 := by omega
      have HC := Lib.hid hcell
      obtain rfl : d = (k : Int) - 16 := by omega
      have hw1 : IntKind.i64.wrap ((k : Int) - 16 + 16) = (k : Int) := by rw [IntKind.wrap_i64]; omega
      have hw2 : (k : Int) - 16 + 16 = (k : Int) := by omega
      clear hs hcell hk
      go_enter Try.func35, Try.ntmps35
      go_wp2_with (go_at_call 61; refine hc.mono ?_; rintro e w1 ⟨g, rfl, hv, hx1⟩; have c1 := HC.out _ _ hv; clear hv)
      go_ret2
      exact ⟨rfl, hx1⟩

set_option maxRecDepth 100000 in
theorem rvpart_any (w : World) (n : Int) : Calls Try.prog 65 #[.int .i64 n] w fun e w' => e = .returned (.bool (decide (partP n))) ∧ w = w' := by
  by_cases h1 : -15 ≤ n
  · by_cases h2 : n ≤ 15
    · rw [decide_eq_true (show partP n from ⟨h1, h2⟩)]
      go_enter Try.func65, Try.ntmps65
      go_wp2_with fail
      go_ret
      exact ⟨by simp [h1, h2], rfl⟩
    · rw [decide_eq_false (show ¬ partP n from fun h => h2 h.2)]
      go_enter Try.func65, Try.ntmps65
      go_wp2_with fail
      go_ret
      exact ⟨by simp [h1, h2], rfl⟩
  · rw [decide_eq_false (show ¬ partP n from fun h => h1 h.1)]
    go_enter Try.func65, Try.ntmps65
    go_wp2_with fail
    go_ret
    exact ⟨by simp [h1], rfl⟩

set_option maxRecDepth 100000 in
theorem rvPred_any (w : World) (a d : Int) (had : Bool) (x y : Int) : Calls Try.prog 41 #[.int .i64 a, .int .i64 d, .bool had, .int .i64 x, .int .i64 y] w fun e w' => e = .returned (.tuple #[.int .i64 (predF a d had x y).1, .int .i64 (predF a d had x y).2]) ∧ w = w' := by
  unfold predF
  by_cases h2 : a = 1
  · subst h2
    rw [if_pos (by simp)]
    go_enter Try.func41, Try.ntmps41
    go_wp2_with fail
    go_ret2
    exact ⟨rfl, rfl⟩
  · by_cases h3 : a = 12
    · subst h3
      rw [if_pos (by simp)]
      go_enter Try.func41, Try.ntmps41
      go_wp2_with fail
      go_ret2
      exact ⟨rfl, rfl⟩
    · by_cases h4 : a = 23
      · subst h4
        rw [if_pos (by simp)]
        go_enter Try.func41, Try.ntmps41
        go_wp2_with fail
        go_ret2
        exact ⟨rfl, rfl⟩
      · have z1 : (a == 1) = false := by simp; exact h2
        have z2 : (a == 12) = false := by simp; exact h3
        have z3 : (a == 23) = false := by simp; exact h4
        by_cases h1 : d = 1
        · subst h1
          cases had
          · rw [if_pos (by simp)]
            go_enter Try.func41, Try.ntmps41
            go_wp2_with fail
            go_ret2
            exact ⟨rfl, rfl⟩
          · rw [if_neg (by simp; omega)]
            go_enter Try.func41, Try.ntmps41
            go_wp2_with fail
            go_ret2
            exact ⟨rfl, rfl⟩
        · rw [if_pos (by simp [h1])]
          have z4 : (d != 1) = true := by simp; exact h1
          go_enter Try.func41, Try.ntmps41
          go_wp2_with fail
          go_ret2
          exact ⟨rfl, rfl⟩

set_option maxRecDepth 100000 in
set_option maxHeartbeats 2000000 in
theorem rvTurn_any (w : World) (p d : Int) : Calls Try.prog 37 #[.int .i64 p, .int .i64 d] w fun e w' => e = .returned (.tuple #[.int .i64 (turnF p d).1, .int .i64 (turnF p d).2]) ∧ w = w' := by
  have hp := fun w n => rvpart_any w n
  by_cases h1 : partP p
  · have hp1 := fun w => hp w p
    rw [decide_eq_true h1] at hp1
    by_cases h2 : d < -16
    · have ht : turnF p d = (0, 3) := by unfold turnF; rw [if_neg (by omega)]
      rw [ht]
      clear hp h1 ht
      go_enter Try.func37, Try.ntmps37
      go_wp2_with (go_at_call 65; refine (hp1 _).mono ?_; rintro e w1 ⟨rfl, rfl⟩)
      go_ret2
      exact ⟨rfl, rfl⟩
    · by_cases h3 : 15 < d
      · have ht : turnF p d = (0, 3) := by unfold turnF; rw [if_neg (by omega)]
        rw [ht]
        clear hp h1 ht
        go_enter Try.func37, Try.ntmps37
        go_wp2_with (go_at_call 65; refine (hp1 _).mono ?_; rintro e w1 ⟨rfl, rfl⟩)
        go_ret2
        exact ⟨rfl, rfl⟩
      · have hb : -15 ≤ p ∧ p ≤ 15 := h1
        obtain ⟨o, ho⟩ : ∃ o, (if d < 0 then d + 32 else d - 32) = o := ⟨_, rfl⟩
        have hob : -64 ≤ o ∧ o ≤ 64 := by rw [← ho]; split <;> omega
        have hcs : (partP (p + d) ∧ turnF p d = (p + d, 0)) ∨ (¬ partP (p + d) ∧ partP (p + o) ∧ turnF p d = (p + o, 0)) ∨ (¬ partP (p + d) ∧ ¬ partP (p + o) ∧ turnF p d = (0, 12)) := by
          unfold turnF
          rw [if_pos (show partP p ∧ -16 ≤ d ∧ d ≤ 15 from ⟨h1, by omega, by omega⟩)]
          by_cases a1 : partP (p + d)
          · rw [if_pos a1]; exact .inl ⟨a1, rfl⟩
          · rw [if_neg a1]
            right
            by_cases a0 : d < 0
            · rw [if_pos a0] at ho
              by_cases a2 : partP (p + d + 32)
              · rw [if_pos a2, ← ho]
                exact .inl ⟨a1, by rw [show p + (d + 32) = p + d + 32 by omega]; exact a2, by rw [show p + (d + 32) = p + d + 32 by omega]⟩
              · rw [if_neg a2]
                have a3 : ¬ partP (p + d - 32) := by unfold partP at *; omega
                rw [if_neg a3, ← ho]
                exact .inr ⟨a1, by rw [show p + (d + 32) = p + d + 32 by omega]; exact a2, rfl⟩
            · rw [if_neg a0] at ho
              have a2 : ¬ partP (p + d + 32) := by unfold partP at *; omega
              rw [if_neg a2]
              by_cases a3 : partP (p + d - 32)
              · rw [if_pos a3, ← ho]
                exact .inl ⟨a1, by rw [show p + (d - 32) = p + d - 32 by omega]; exact a3, by rw [show p + (d - 32) = p + d - 32 by omega]⟩
              · rw [if_neg a3, ← ho]
                exact .inr ⟨a1, by rw [show p + (d - 32) = p + d - 32 by omega]; exact a3, rfl⟩
        have hq1 := fun w => hp w (p + d)
        have hq2 := fun w => hp w (p + o)
        clear hp h1
        by_cases a0 : d < 0
        · rw [if_pos a0] at ho
          subst ho
          rcases hcs with ⟨b1, ht⟩ | ⟨b1, b2, ht⟩ | ⟨b1, b2, ht⟩
          · rw [decide_eq_true b1] at hq1
            rw [ht]
            clear b1 ht hq2
            go_enter Try.func37, Try.ntmps37
            go_wp2_with (first | (go_at_call 65; refine (hp1 _).mono ?_; rintro e w1 ⟨rfl, rfl⟩; clear hp1) | (go_at_call 65; refine (hq1 _).mono ?_; rintro e w1 ⟨rfl, rfl⟩))
            go_ret2
            exact ⟨rfl, rfl⟩
          · rw [decide_eq_false b1] at hq1
            rw [decide_eq_true b2] at hq2
            rw [ht]
            clear b1 b2 ht
            go_enter Try.func37, Try.ntmps37
            go_wp2_with (first | (go_at_call 65; refine (hp1 _).mono ?_; rintro e w1 ⟨rfl, rfl⟩; clear hp1) | (go_at_call 65; refine (hq1 _).mono ?_; rintro e w1 ⟨rfl, rfl⟩; clear hq1) | (go_at_call 65; refine (hq2 _).mono ?_; rintro e w1 ⟨rfl, rfl⟩))
            go_ret2
            exact ⟨rfl, rfl⟩
          · rw [decide_eq_false b1] at hq1
            rw [decide_eq_false b2] at hq2
            rw [ht]
            clear b1 b2 ht
            go_enter Try.func37, Try.ntmps37
            go_wp2_with (first | (go_at_call 65; refine (hp1 _).mono ?_; rintro e w1 ⟨rfl, rfl⟩; clear hp1) | (go_at_call 65; refine (hq1 _).mono ?_; rintro e w1 ⟨rfl, rfl⟩; clear hq1) | (go_at_call 65; refine (hq2 _).mono ?_; rintro e w1 ⟨rfl, rfl⟩))
            go_ret2
            exact ⟨rfl, rfl⟩
        · rw [if_neg a0] at ho
          subst ho
          rcases hcs with ⟨b1, ht⟩ | ⟨b1, b2, ht⟩ | ⟨b1, b2, ht⟩
          · rw [decide_eq_true b1] at hq1
            rw [ht]
            clear b1 ht hq2
            go_enter Try.func37, Try.ntmps37
            go_wp2_with (first | (go_at_call 65; refine (hp1 _).mono ?_; rintro e w1 ⟨rfl, rfl⟩; clear hp1) | (go_at_call 65; refine (hq1 _).mono ?_; rintro e w1 ⟨rfl, rfl⟩))
            go_ret2
            exact ⟨rfl, rfl⟩
          · rw [decide_eq_false b1] at hq1
            rw [decide_eq_true b2] at hq2
            rw [ht]
            clear b1 b2 ht
            go_enter Try.func37, Try.ntmps37
            go_wp2_with (first | (go_at_call 65; refine (hp1 _).mono ?_; rintro e w1 ⟨rfl, rfl⟩; clear hp1) | (go_at_call 65; refine (hq1 _).mono ?_; rintro e w1 ⟨rfl, rfl⟩; clear hq1) | (go_at_call 65; refine (hq2 _).mono ?_; rintro e w1 ⟨rfl, rfl⟩))
            go_ret2
            exact ⟨rfl, rfl⟩
          · rw [decide_eq_false b1] at hq1
            rw [decide_eq_false b2] at hq2
            rw [ht]
            clear b1 b2 ht
            go_enter Try.func37, Try.ntmps37
            go_wp2_with (first | (go_at_call 65; refine (hp1 _).mono ?_; rintro e w1 ⟨rfl, rfl⟩; clear hp1) | (go_at_call 65; refine (hq1 _).mono ?_; rintro e w1 ⟨rfl, rfl⟩; clear hq1) | (go_at_call 65; refine (hq2 _).mono ?_; rintro e w1 ⟨rfl, rfl⟩))
            go_ret2
            exact ⟨rfl, rfl⟩
  · have hp1 := fun w => hp w p
    rw [decide_eq_false h1] at hp1
    have ht : turnF p d = (0, 3) := by unfold turnF; rw [if_neg (fun h => h1 h.1)]
    rw [ht]
    clear hp h1 ht
    go_enter Try.func37, Try.ntmps37
    go_wp2_with (go_at_call 65; refine (hp1 _).mono ?_; rintro e w1 ⟨rfl, rfl⟩)
    go_ret2
    exact ⟨rfl, rfl⟩

set_option maxRecDepth 100000 in
set_option maxHeartbeats 2000000 in
theorem rvDiff_any (w : World) (p t : Int) : Calls Try.prog 39 #[.int .i64 p, .int .i64 t] w fun e w' => e = .returned (.tuple #[.int .i64 (diffF p t).1, .int .i64 (diffF p t).2]) ∧ w = w' := by
  have hp := fun w n => rvpart_any w n
  have htn := fun w d => rvTurn_any w p d
  unfold diffF
  by_cases h1 : partP p
  · have hp1 := fun w => hp w p
    rw [decide_eq_true h1] at hp1
    by_cases h2 : partP t
    · have hp2 := fun w => hp w t
      rw [decide_eq_true h2] at hp2
      rw [if_pos ⟨h1, h2⟩]
      have hit := fun d => turn_hit (d := d) h1 h2
      obtain ⟨D, hD⟩ : ∃ D : Nat, (t - p + 80) % 32 = (D : Int) := Int.eq_ofNat_of_zero_le (Int.emod_nonneg _ (by omega))
      have hD32 : D < 32 := by omega
      rw [hD]
      rw [hD] at hit
      have HIT := Lib.hid hit
      clear hp hit hD
      go_enter Try.func39, Try.ntmps39
      go_wp2_with (first | (go_at_call 65; refine (hp1 _).mono ?_; rintro e w1 ⟨rfl, rfl⟩; clear hp1) | (go_at_call 65; refine (hp2 _).mono ?_; rintro e w1 ⟨rfl, rfl⟩))
      go_loop [6, 7, 8] (fun d _ _ => ∃ k : Nat, k ≤ D ∧ d = .int .i64 ((k : Int) - 16)) (fun d _ _ => (16 - intOf d).toNat)
      case atStart => exact ⟨0, by omega, rfl⟩
      case round =>
        obtain ⟨k, hk, rfl⟩ := hrel
        have hc := htn w ((k : Int) - 16)
        have hh := HIT.out ((k : Int) - 16) (by omega) (by omega)
        obtain ⟨⟨x, er⟩, hx⟩ : ∃ x, turnF p ((k : Int) - 16) = x := ⟨_, rfl⟩
        rw [hx] at hc hh
        simp only at hc
        have dlt : decide ((k : Int) - 16 ≤ 15) = true := decide_eq_true (by omega)
        by_cases hkD : k = D
        · obtain ⟨rfl, rfl⟩ : x = t ∧ er = 0 := by have := hh.2 (by omega); simpa using this
          subst hkD
          have bx : (x == x) = true := by simp
          clear hx hh htn
          go_wp2_with (go_at_call 37; refine hc.mono ?_; rintro e w1 ⟨rfl, rfl⟩)
          go_ret2
          exact ⟨rfl, rfl⟩
        · have hne : ¬ (x = t ∧ er = 0) := fun h => hkD (by have := hh.1 (by rw [h.1, h.2]); omega)
          clear hx hh htn
          by_cases he : er = 0
          · have hxt : (x == t) = false := by simp; exact fun e => hne ⟨e, he⟩
            subst he
            clear hne
            go_wp2_with (go_at_call 37; refine hc.mono ?_; rintro e w1 ⟨rfl, rfl⟩)
            go_round
            case rel => exact ⟨k + 1, by omega, by go_num⟩
            case measure => simp [intOf]; omega
          · have hxe : (er == 0) = false := by simp; exact he
            clear hne
            go_wp2_with (go_at_call 37; refine hc.mono ?_; rintro e w1 ⟨rfl, rfl⟩)
            go_round
            case rel => exact ⟨k + 1, by omega, by go_num⟩
            case measure => simp [intOf]; omega
    · have hp2 := fun w => hp w t
      rw [decide_eq_false h2] at hp2
      rw [if_neg (fun h => h2 h.2)]
      clear hp h1 h2
      go_enter Try.func39, Try.ntmps39
      go_wp2_with (first | (go_at_call 65; refine (hp1 _).mono ?_; rintro e w1 ⟨rfl, rfl⟩; clear hp1) | (go_at_call 65; refine (hp2 _).mono ?_; rintro e w1 ⟨rfl, rfl⟩))
      go_ret2
      exact ⟨rfl, rfl⟩
  · have hp1 := fun w => hp w p
    rw [decide_eq_false h1] at hp1
    rw [if_neg (fun h => h1 h.1)]
    clear hp h1
    go_enter Try.func39, Try.ntmps39
    go_wp2_with (go_at_call 65; refine (hp1 _).mono ?_; rintro e w1 ⟨rfl, rfl⟩)
    go_ret2
    exact ⟨rfl, rfl⟩
end Go.Proofs.Ytheihohojmcbiaa
