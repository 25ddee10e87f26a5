/-
  Law 01: BitsFinds.
-/
import Derived.Test.YtejomjkkjcnfnaaKnown01
import Derived.Test.YtejomjkkjcnfnaaKit
namespace Go.Mine
theorem readOf_code (bs : List UInt8) (i : Nat) : readOf bs (i : Int) 16 = (1, 0) ↔ IsCode bs i := by
  unfold readOf
  rw [if_neg (by omega)]
  by_cases h : 8 * (bs.length : Int) < (i : Int) + 16
  · rw [if_pos h]
    constructor
    · intro h1; simp at h1
    · intro h1; have := h1.1; omega
  · rw [if_neg h, isCode_num bs i (by omega)]
    simp
    omega
theorem findOf_spec (bs : List UInt8) (f : Nat) : (∃ x : Nat, findOf bs f = ((x : Int), 0) ∧ f ≤ x ∧ IsCode bs x ∧ ∀ y, f ≤ y → y < x → ¬ IsCode bs y) ∨ (findOf bs f = (0, 5) ∧ ∀ y, f ≤ y → ¬ IsCode bs y) := by
  unfold findOf
  rcases Nat.lt_or_ge f (8 * bs.length) with h | h
  · cases hf : findF bs f 0 (8 * bs.length - f) with
    | none => exact .inr ⟨rfl, findF_none bs _ f 0 (by omega) (by omega) (fun j h1 h2 => by omega) hf⟩
    | some x =>
      obtain ⟨h1, h2, h3⟩ := findF_some bs _ f 0 x (by omega) (by omega) (fun j h1 h2 => by omega) hf
      exact .inl ⟨x, rfl, h1, h2, h3⟩
  · rw [show 8 * bs.length - f = 0 by omega]
    exact .inr ⟨rfl, fun y hy hc => by have := hc.1; omega⟩
end Go.Mine
namespace Go.Proofs.Ytejomjkkjcnfnaa
open Go.RowKit Go.Mine

set_option maxRecDepth 100000 in
theorem findAll_nat (bs : List UInt8) (f : Nat) : findAll bs (f : Int) = findOf bs f := by rw [findAll, if_neg (by omega)]; simp

set_option maxRecDepth 100000 in
set_option maxHeartbeats 2000000 in
theorem Finds_walk {w : World} (x : Value × List UInt8) (hx : Rd w 1 x.1 x.2.length (byteCells x.2) ∧ x.2.length ≤ maxLen) (i : Int) (hi : -9223372036854775808 ≤ i ∧ i ≤ 9223372036854775807) :
    Calls Try.prog 7 #[x.1, .int .i64 i] w fun e w' => e = .returned (.bool true) ∧ OnlyIn [] w w' := by
  obtain ⟨v, bs⟩ := x
  obtain ⟨hr, hml⟩ := hx
  simp only at hr hml ⊢
  unfold maxLen at hml
  have hr' := hr
  obtain ⟨-, A, c, rfl, hc, hA⟩ := hr'
  clear hA
  go_enter Try.func7, Try.ntmps7
  go_wp2_with fail
  refine (known_any w).mono ?_
  rintro e w1 ⟨rfl, ht1⟩
  by_cases h60 : 60 < bs.length
  · go_wp2_with fail
    go_ret
    exact ⟨rfl, ht1⟩
  · have hr1 : Rd w1 1 (.slice A bs.length c) bs.length (byteCells bs) := hr.cells fun p u hp => ht1.cell hp (by simp)
    have h60' : bs.length ≤ 60 := by omega
    have hm0 : 0 ≤ i % (8 * (bs.length : Int) + 2) := Int.emod_nonneg _ (by omega)
    have hm1 : i % (8 * (bs.length : Int) + 2) < 8 * (bs.length : Int) + 2 := Int.emod_lt_of_pos _ (by omega)
    obtain ⟨f, hf⟩ := Int.eq_ofNat_of_zero_le hm0
    rw [hf] at hm1
    have HF := Lib.hid hf
    clear hf hm0
    have hpick := Pick_any i (8 * (bs.length : Int) + 2) w1 (by omega) (by omega) hi.1 hi.2
    rw [HF.out] at hpick
    go_wp2_with (go_at_call 31; refine hpick.mono ?_; rintro e w2 ⟨rfl, rfl⟩)
    refine (Find_all w1 _ bs hr1 (by omega) (f : Int)).mono ?_
    rintro e w2 ⟨rfl, ht2⟩
    rw [findAll_nat]
    have hr2 : Rd w2 1 (.slice A bs.length c) bs.length (byteCells bs) := hr1.cells fun p u hp => ht2.cell hp (by simp)
    have ht := ht1.trans ht2
    clear ht1 ht2 hr hr1 hpick
    rcases findOf_spec bs f with ⟨y, hy, hfy, hcy, hno⟩ | ⟨hy, hno⟩
    · rw [hy]
      have hcode := code_any w2 _ bs hr2 (by omega) (y : Int) (by have := hcy.1; omega)
      rw [show decide (readOf bs (y : Int) 16 = (1, 0)) = true from decide_eq_true ((readOf_code bs y).2 hcy)] at hcode
      have hyl := hcy.1
      have hlt : decide (y < f) = false := decide_eq_false (by omega)
      have HN := Lib.hid hno
      clear hy hno hcy
      go_wp2_with (go_at_call 33; refine hcode.mono ?_; rintro e w3 ⟨rfl, rfl⟩)
      go_loop [9] (fun i => ∃ k : Nat, i = .int .i64 ((f : Int) + (k : Int))) (fun i => y - (intOf i).toNat)
      case atStart => exact ⟨0, by simp⟩
      case round =>
        obtain ⟨k, rfl⟩ := hrel
        by_cases hlt2 : f + k < y
        · have hcode2 := code_any w2 _ bs hr2 (by omega) ((f + k : Nat) : Int) (by omega)
          rw [show decide (readOf bs ((f + k : Nat) : Int) 16 = (1, 0)) = false from decide_eq_false (fun h => HN.out (f + k) (by omega) hlt2 ((readOf_code bs _).1 h))] at hcode2
          rw [show ((f + k : Nat) : Int) = (f : Int) + (k : Int) from by omega] at hcode2
          go_wp2_with (go_at_call 33; refine hcode2.mono ?_; rintro e w3 ⟨rfl, rfl⟩)
          go_round
          case rel => exact ⟨k + 1, by go_num⟩
          case measure => simp [intOf]; omega
        · go_wp2_with fail
          go_ret
          exact ⟨rfl, ht⟩
    · rw [hy]
      have HN := Lib.hid hno
      clear hy hno
      go_wp2_with fail
      go_loop [9] (fun i => ∃ k : Nat, i = .int .i64 ((f : Int) + (k : Int))) (fun i => 8 * bs.length - (intOf i).toNat)
      case atStart => exact ⟨0, by simp⟩
      case round =>
        obtain ⟨k, rfl⟩ := hrel
        by_cases hlt2 : f + k < 8 * bs.length
        · have hcode2 := code_any w2 _ bs hr2 (by omega) ((f + k : Nat) : Int) (by omega)
          rw [show decide (readOf bs ((f + k : Nat) : Int) 16 = (1, 0)) = false from decide_eq_false (fun h => HN.out (f + k) (by omega) ((readOf_code bs _).1 h))] at hcode2
          rw [show ((f + k : Nat) : Int) = (f : Int) + (k : Int) from by omega] at hcode2
          go_wp2_with (go_at_call 33; refine hcode2.mono ?_; rintro e w3 ⟨rfl, rfl⟩)
          go_round
          case rel => exact ⟨k + 1, by go_num⟩
          case measure => simp [intOf]; omega
        · go_wp2_with fail
          go_ret
          exact ⟨rfl, ht⟩
end Go.Proofs.Ytejomjkkjcnfnaa
