/-
  Package vector: Get, Put, part, Turn, Diff, Predict.
-/
import Derived.Test.YtheihohojmcbiaaVec
namespace Go.Mine
open Go.RowKit
def partP (n : Int) : Prop := -15 ≤ n ∧ n ≤ 15
instance (n : Int) : Decidable (partP n) := by unfold partP; infer_instance
def vputF (d : Int) : ByteArray × Int := if -16 ≤ d ∧ d ≤ 15 then (str (vc d), 0) else (⟨#[]⟩, 3)
def turnF (p d : Int) : Int × Int := if partP p ∧ -16 ≤ d ∧ d ≤ 15 then (if partP (p + d) then (p + d, 0) else if partP (p + d + 32) then (p + d + 32, 0) else if partP (p + d - 32) then (p + d - 32, 0) else (0, 12)) else (0, 3)
def diffF (p t : Int) : Int × Int := if partP p ∧ partP t then ((t - p + 80) % 32 - 16, 0) else (0, 3)
def predF (a d : Int) (had : Bool) (x y : Int) : Int × Int := if a = 1 ∨ a = 12 ∨ a = 23 ∨ d ≠ 1 ∨ had = false then (0, 0) else (x, y)
end Go.Mine
namespace Go.Proofs.Ytheihohojmcbiaa
open Go.RowKit Go.Mine Go.Shelf

set_option maxRecDepth 100000 in
theorem vGet_any (w : World) (v : Value) (bs : List UInt8) (hr : Rd w 1 v bs.length (byteCells bs)) (hl : bs.length ≤ 1000000000) (i : Int) (hi : i ≤ 9223372036854775807) :
    Calls Try.prog 32 #[v, .int .i64 i] w fun e w' => e = .returned (.tuple #[.int .i64 (getT VT bs i).1, .int .i64 (getT VT bs i).2.1, .int .i64 (getT VT bs i).2.2]) ∧ OnlyIn [] w w' := by
  have ht := vtree_any w
  obtain ⟨A, c, rfl⟩ : ∃ A c, v = .slice A bs.length c := by
    obtain ⟨-, A, c, rfl, -⟩ := hr
    exact ⟨A, c, rfl⟩
  have hg := fun w1 {base b tv mb} (ho : OnlyIn [] w w1) (hT : Tr w1 base b tv mb 32 VT (told (vcodes.zip vnums)) 32) => TGetT w1 hT (by decide) _ bs (hr.cells fun p u hp => ho.cell hp (by simp)) hl i hi
  obtain ⟨⟨x, m, er⟩, hx⟩ : ∃ x, getT VT bs i = x := ⟨_, rfl⟩
  rw [hx] at hg ⊢
  simp only at hg ⊢
  clear hx hr
  go_enter Try.func32, Try.ntmps32
  go_wp2_with (first | (go_at_call 59; refine ht.mono ?_; rintro e w1 ⟨b, tv, mb, rfl, hT, h1⟩) | (go_at_call 49; refine (hg _ h1 hT).mono ?_; rintro e w2 ⟨rfl, h2⟩))
  go_ret3
  exact ⟨rfl, h1.trans h2⟩

set_option maxRecDepth 100000 in
theorem vPut_any (w : World) (d : Int) : Calls Try.prog 34 #[.int .i64 d] w fun e w' => e = .returned (.tuple #[.string (vputF d).1, .int .i64 (vputF d).2]) ∧ w = w' := by
  unfold vputF
  by_cases h1 : d < -16
  · rw [if_neg (by omega)]
    go_enter Try.func34, Try.ntmps34
    go_wp2_with fail
    go_ret2
    exact ⟨rfl, rfl⟩
  · by_cases h2 : 15 < d
    · rw [if_neg (by omega)]
      go_enter Try.func34, Try.ntmps34
      go_wp2_with fail
      go_ret2
      exact ⟨rfl, rfl⟩
    · rw [if_pos (by omega)]
      have hc := vcode_any w d (by omega) (by omega)
      obtain ⟨s, hs⟩ : ∃ s, str (vc d) = s := ⟨_, rfl⟩
      rw [hs] at hc ⊢
      clear hs
      go_enter Try.func34, Try.ntmps34
      go_wp2_with (go_at_call 63; refine hc.mono ?_; rintro e w1 ⟨rfl, rfl⟩)
      go_ret2
      exact ⟨rfl, rfl⟩

set_option maxRecDepth 100000 in
theorem vpart_any (w : World) (n : Int) : Calls Try.prog 64 #[.int .i64 n] w fun e w' => e = .returned (.bool (decide (partP n))) ∧ w = w' := by
  by_cases h1 : -15 ≤ n
  · by_cases h2 : n ≤ 15
    · rw [decide_eq_true (show partP n from ⟨h1, h2⟩)]
      go_enter Try.func64, Try.ntmps64
      go_wp2_with fail
      go_ret
      exact ⟨by simp [h1, h2], rfl⟩
    · rw [decide_eq_false (show ¬ partP n from fun h => h2 h.2)]
      go_enter Try.func64, Try.ntmps64
      go_wp2_with fail
      go_ret
      exact ⟨by simp [h1, h2], rfl⟩
  · rw [decide_eq_false (show ¬ partP n from fun h => h1 h.1)]
    go_enter Try.func64, Try.ntmps64
    go_wp2_with fail
    go_ret
    exact ⟨by simp [h1], rfl⟩

set_option maxRecDepth 100000 in
theorem vDiff_any (w : World) (p t : Int) : Calls Try.prog 38 #[.int .i64 p, .int .i64 t] w fun e w' => e = .returned (.tuple #[.int .i64 (diffF p t).1, .int .i64 (diffF p t).2]) ∧ w = w' := by
  have hp := fun w n => vpart_any w n
  unfold diffF
  by_cases h1 : partP p
  · have hp1 := fun w => hp w p
    rw [decide_eq_true h1] at hp1
    by_cases h2 : partP t
    · have hp2 := fun w => hp w t
      rw [decide_eq_true h2] at hp2
      rw [if_pos ⟨h1, h2⟩]
      obtain ⟨a1, a2⟩ := h1
      obtain ⟨b1, b2⟩ := h2
      have hm : (t - p + 16 + 64).tmod 32 = (t - p + 80) % 32 := by rw [Int.tmod_eq_emod_of_nonneg (by omega)]; omega
      have hm2 : (t - p + 16 + 64) % 32 = (t - p + 80) % 32 := by omega
      obtain ⟨z, hz⟩ : ∃ z, (t - p + 80) % 32 = z := ⟨_, rfl⟩
      have hz1 : 0 ≤ z ∧ z < 32 := by omega
      rw [hz] at hm hm2 ⊢
      clear hp hz
      go_enter Try.func38, Try.ntmps38
      go_wp2_with (first | (go_at_call 64; have _t := hm; refine (hp1 _).mono ?_; rintro e w1 ⟨rfl, rfl⟩; clear hp1) | (go_at_call 64; refine (hp2 _).mono ?_; rintro e w1 ⟨rfl, rfl⟩))
      go_ret2
      exact ⟨rfl, rfl⟩
    · have hp2 := fun w => hp w t
      rw [decide_eq_false h2] at hp2
      rw [if_neg (fun h => h2 h.2)]
      clear hp h1 h2
      go_enter Try.func38, Try.ntmps38
      go_wp2_with (first | (go_at_call 64; refine (hp1 _).mono ?_; rintro e w1 ⟨rfl, rfl⟩; clear hp1) | (go_at_call 64; refine (hp2 _).mono ?_; rintro e w1 ⟨rfl, rfl⟩))
      go_ret2
      exact ⟨rfl, rfl⟩
  · have hp1 := fun w => hp w p
    rw [decide_eq_false h1] at hp1
    rw [if_neg (fun h => h1 h.1)]
    clear hp h1
    go_enter Try.func38, Try.ntmps38
    go_wp2_with (go_at_call 64; refine (hp1 _).mono ?_; rintro e w1 ⟨rfl, rfl⟩)
    go_ret2
    exact ⟨rfl, rfl⟩

set_option maxRecDepth 100000 in
theorem vPred_any (w : World) (a d : Int) (had : Bool) (x y : Int) : Calls Try.prog 40 #[.int .i64 a, .int .i64 d, .bool had, .int .i64 x, .int .i64 y] w fun e w' => e = .returned (.tuple #[.int .i64 (predF a d had x y).1, .int .i64 (predF a d had x y).2]) ∧ w = w' := by
  unfold predF
  cases had
  · rw [if_pos (by simp)]
    go_enter Try.func40, Try.ntmps40
    go_wp2_with fail
    go_ret2
    exact ⟨rfl, rfl⟩
  · by_cases h1 : d = 1
    · subst h1
      by_cases h2 : a = 1
      · subst h2
        go_enter Try.func40, Try.ntmps40
        go_wp2_with fail
        go_ret2
        exact ⟨rfl, rfl⟩
      · by_cases h3 : a = 12
        · subst h3
          go_enter Try.func40, Try.ntmps40
          go_wp2_with fail
          go_ret2
          exact ⟨rfl, rfl⟩
        · by_cases h4 : a = 23
          · subst h4
            go_enter Try.func40, Try.ntmps40
            go_wp2_with fail
            go_ret2
            exact ⟨rfl, rfl⟩
          · rw [if_neg (by simp; omega)]
            have z1 : (a == 1) = false := by simp; exact h2
            have z2 : (a == 12) = false := by simp; exact h3
            have z3 : (a == 23) = false := by simp; exact h4
            go_enter Try.func40, Try.ntmps40
            go_wp2_with fail
            go_ret2
            exact ⟨rfl, rfl⟩
    · rw [if_pos (by simp [h1])]
      have z1 : (d != 1) = true := by simp; exact h1
      go_enter Try.func40, Try.ntmps40
      go_wp2_with fail
      go_ret2
      exact ⟨rfl, rfl⟩

set_option maxRecDepth 100000 in
set_option maxHeartbeats 2000000 in
theorem vTurn_any (w : World) (p d : Int) : Calls Try.prog 36 #[.int .i64 p, .int .i64 d] w fun e w' => e = .returned (.tuple #[.int .i64 (turnF p d).1, .int .i64 (turnF p d).2]) ∧ w = w' := by
  have hp := fun w n => vpart_any w n
  by_cases h1 : partP p
  · by_cases h2 : -16 ≤ d
    · by_cases h3 : d ≤ 15
      · obtain ⟨R, hR⟩ : ∃ R, turnF p d = R := ⟨_, rfl⟩
        rw [hR]
        have hRR : R = if partP (p + d) then (p + d, 0) else if partP (p + d + 32) then (p + d + 32, 0) else if partP (p + d + -32) then (p + d + -32, 0) else (0, 12) := by
          rw [← hR, turnF, if_pos ⟨h1, h2, h3⟩]
          rfl
        have hp1 := fun w => hp w p
        rw [decide_eq_true h1] at hp1
        have hP := Lib.hid (And.intro hRR h1)
        have j0 : ∀ W : World, (Instr.index 79 (.agg #[.int .i64 0, .int .i64 32, .int .i64 (-32)]) (.int .i64 0)).run Try.prog W = .ok (.int .i64 0) W := fun _ => by kernel_rfl
        have j1 : ∀ W : World, (Instr.index 79 (.agg #[.int .i64 0, .int .i64 32, .int .i64 (-32)]) (.int .i64 1)).run Try.prog W = .ok (.int .i64 32) W := fun _ => by kernel_rfl
        have j2 : ∀ W : World, (Instr.index 79 (.agg #[.int .i64 0, .int .i64 32, .int .i64 (-32)]) (.int .i64 2)).run Try.prog W = .ok (.int .i64 (-32)) W := fun _ => by kernel_rfl
        have hb : -15 ≤ p ∧ p ≤ 15 := h1
        have dd1 : decide (d < -16) = false := decide_eq_false (by omega)
        have dd2 : decide ((15 : Int) < d) = false := decide_eq_false (by omega)
        clear hR hRR h1
        go_enter Try.func36, Try.ntmps36
        go_wp2_with fail
        refine wp_scope_straight ?_
        go_wp2_with (go_at_call 64; refine (hp1 _).mono ?_; rintro e w1 ⟨rfl, rfl⟩)
        clear hp1
        refine wp_label ?_
        go_wp2_with fail
        go_loop [6, 7, 9, 10, 23] (fun o er _ _ i => ∃ k : Nat, k ≤ 3 ∧ i = .int .i64 (k : Int) ∧ o = .int .i64 0 ∧ er = .int .i64 12 ∧ Hid ((1 ≤ k → ¬ partP (p + d)) ∧ (2 ≤ k → ¬ partP (p + d + 32)) ∧ (3 ≤ k → ¬ partP (p + d + -32)))) (fun _ _ _ _ i => 3 - (intOf i).toNat)
        case atStart => exact ⟨0, by omega, rfl, rfl, rfl, Lib.hid ⟨by omega, by omega, by omega⟩⟩
        case round =>
          obtain ⟨k, hk, rfl, rfl, rfl, HZ⟩ := hrel
          rcases (by omega : k = 0 ∨ k = 1 ∨ k = 2 ∨ k = 3) with rfl | rfl | rfl | rfl
          · have hc := hp w (p + d)
            by_cases hh : partP (p + d)
            · have hRe : R = (p + d, 0) := by rw [hP.out.1, if_pos hh]
              rw [decide_eq_true hh] at hc
              subst hRe
              clear hh hp
              go_wp2_with (go_at_call 64; refine hc.mono ?_; rintro e w1 ⟨rfl, rfl⟩)
              (try simp only [Exit.noGoto])
              go_ret2
              exact ⟨rfl, rfl⟩
            · have HZ2 : Hid ((1 ≤ 1 → ¬ partP (p + d)) ∧ (2 ≤ 1 → ¬ partP (p + d + 32)) ∧ (3 ≤ 1 → ¬ partP (p + d + -32))) := Lib.hid ⟨fun _ => hh, by omega, by omega⟩
              rw [decide_eq_false hh] at hc
              clear hh hp HZ
              go_wp2_with (go_at_call 64; refine hc.mono ?_; rintro e w1 ⟨rfl, rfl⟩)
              go_round
              case rel => exact ⟨1, by omega, by go_num, rfl, rfl, HZ2⟩
              case measure => simp [intOf]
          · have hc := hp w (p + d + 32)
            by_cases hh : partP (p + d + 32)
            · have hRe : R = (p + d + 32, 0) := by rw [hP.out.1, if_neg (HZ.out.1 (by omega)), if_pos hh]
              rw [decide_eq_true hh] at hc
              subst hRe
              clear hh hp
              go_wp2_with (go_at_call 64; refine hc.mono ?_; rintro e w1 ⟨rfl, rfl⟩)
              (try simp only [Exit.noGoto])
              go_ret2
              exact ⟨rfl, rfl⟩
            · have HZ2 : Hid ((1 ≤ 2 → ¬ partP (p + d)) ∧ (2 ≤ 2 → ¬ partP (p + d + 32)) ∧ (3 ≤ 2 → ¬ partP (p + d + -32))) := Lib.hid ⟨fun _ => HZ.out.1 (by omega), fun _ => hh, by omega⟩
              rw [decide_eq_false hh] at hc
              clear hh hp HZ
              go_wp2_with (go_at_call 64; refine hc.mono ?_; rintro e w1 ⟨rfl, rfl⟩)
              go_round
              case rel => exact ⟨2, by omega, by go_num, rfl, rfl, HZ2⟩
              case measure => simp [intOf]
          · have hc := hp w (p + d + -32)
            by_cases hh : partP (p + d + -32)
            · have hRe : R = (p + d + -32, 0) := by rw [hP.out.1, if_neg (HZ.out.1 (by omega)), if_neg (HZ.out.2.1 (by omega)), if_pos hh]
              rw [decide_eq_true hh] at hc
              subst hRe
              clear hh hp
              go_wp2_with (go_at_call 64; refine hc.mono ?_; rintro e w1 ⟨rfl, rfl⟩)
              (try simp only [Exit.noGoto])
              go_ret2
              exact ⟨rfl, rfl⟩
            · have HZ2 : Hid ((1 ≤ 3 → ¬ partP (p + d)) ∧ (2 ≤ 3 → ¬ partP (p + d + 32)) ∧ (3 ≤ 3 → ¬ partP (p + d + -32))) := Lib.hid ⟨fun _ => HZ.out.1 (by omega), fun _ => HZ.out.2.1 (by omega), fun _ => hh⟩
              rw [decide_eq_false hh] at hc
              clear hh hp HZ
              go_wp2_with (go_at_call 64; refine hc.mono ?_; rintro e w1 ⟨rfl, rfl⟩)
              go_round
              case rel => exact ⟨3, by omega, by go_num, rfl, rfl, HZ2⟩
              case measure => simp [intOf]
          · have hRe : R = (0, 12) := by rw [hP.out.1, if_neg (HZ.out.1 (by omega)), if_neg (HZ.out.2.1 (by omega)), if_neg (HZ.out.2.2 (by omega))]
            subst hRe
            clear HZ hp
            go_wp2_with fail
            (try simp only [Exit.noGoto])
            go_ret2
            exact ⟨rfl, rfl⟩
      · have hp1 := fun w => hp w p
        rw [decide_eq_true h1] at hp1
        have ht : turnF p d = (0, 3) := by unfold turnF; rw [if_neg (by omega)]
        rw [ht]
        clear hp h1 ht
        go_enter Try.func36, Try.ntmps36
        go_wp2_with fail
        refine wp_scope_straight ?_
        go_wp2_with (go_at_call 64; refine (hp1 _).mono ?_; rintro e w1 ⟨rfl, rfl⟩)
        (try simp only [Exit.noGoto])
        go_ret2
        exact ⟨rfl, rfl⟩
    · have hp1 := fun w => hp w p
      rw [decide_eq_true h1] at hp1
      have ht : turnF p d = (0, 3) := by unfold turnF; rw [if_neg (by omega)]
      rw [ht]
      clear hp h1 ht
      go_enter Try.func36, Try.ntmps36
      go_wp2_with fail
      refine wp_scope_straight ?_
      go_wp2_with (go_at_call 64; refine (hp1 _).mono ?_; rintro e w1 ⟨rfl, rfl⟩)
      (try simp only [Exit.noGoto])
      go_ret2
      exact ⟨rfl, rfl⟩
  · have hp1 := fun w => hp w p
    rw [decide_eq_false h1] at hp1
    have ht : turnF p d = (0, 3) := by unfold turnF; rw [if_neg (fun h => h1 h.1)]
    rw [ht]
    clear hp h1 ht
    go_enter Try.func36, Try.ntmps36
    go_wp2_with fail
    refine wp_scope_straight ?_
    go_wp2_with (go_at_call 64; refine (hp1 _).mono ?_; rintro e w1 ⟨rfl, rfl⟩)
    (try simp only [Exit.noGoto])
    go_ret2
    exact ⟨rfl, rfl⟩
end Go.Proofs.Ytheihohojmcbiaa
