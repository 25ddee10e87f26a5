/-
  Law 07: PatternSums, PatternNoughts: the walks.
-/
import Derived.Test.YteblkjmeaojegaaDoorLaw07
import Derived.Test.YteblkjmeaojegaaDoorKit
namespace Go.Proofs.YteblkjmeaojegaaDoor
open Go.RowKit Go.Mine
/-- What the blocks up to k - 2 stand for. -/
def sumP (n : Int) : Nat → Nat
  | 0 => 0
  | k + 1 => sumP n k + if hasF n ((k : Int) - 1) then 2 ^ (7 - k) else 0
def manyP (n : Int) : Nat → Nat
  | 0 => 0
  | k + 1 => manyP n k + if hasF n ((k : Int) - 1) then 1 else 0
theorem manyP_le (n : Int) : ∀ k, manyP n k ≤ k
  | 0 => Nat.le_refl _
  | k + 1 => by have := manyP_le n k; rw [manyP]; split <;> omega
theorem sumP_le (n : Int) : ∀ k, sumP n k ≤ 128 * k
  | 0 => Nat.le_refl _
  | k + 1 => by
    have := sumP_le n k
    have h2 : 2 ^ (7 - k) ≤ 2 ^ 7 := Nat.pow_le_pow_right (by decide) (by omega)
    rw [sumP]
    split <;> omega
theorem sumP_all : ∀ m : Fin 64, 1 ≤ m.val → sumP ((m.val : Nat) : Int) 10 = m.val ∧ manyP ((m.val : Nat) : Int) 10 = cntTo ((m.val : Nat) : Int) 6 := by decide +kernel
theorem hasF_bad {n b : Int} (h : ¬ (1 ≤ n ∧ n ≤ 63)) : hasF n b = false := has_out (fun h1 => h h1.1)
theorem sumP_bad {n : Int} (h : ¬ (1 ≤ n ∧ n ≤ 63)) : ∀ k, sumP n k = 0
  | 0 => rfl
  | k + 1 => by rw [sumP, sumP_bad h k, hasF_bad h]; rfl
theorem cntTo_bad {n : Int} (h : ¬ (1 ≤ n ∧ n ≤ 63)) : ∀ k, cntTo n k = 0
  | 0 => rfl
  | k + 1 => by rw [cntTo, cntTo_bad h k, hasF_bad h]; rfl
theorem hasF_block {n b : Int} (h : hasF n b = true) : 1 ≤ b ∧ b ≤ 6 := by
  refine Decidable.byContradiction fun hb => ?_
  rw [has_out (fun h1 => hb h1.2)] at h
  cases h
/-- All nine bits: what is got of them. -/
def nineB (m : Nat) : List UInt8 := [UInt8.ofNat (m / 2), UInt8.ofNat (m * 128 % 256)]
def nineOk (m : Nat) : Bool :=
  let x := getT PT (nineB m) 0
  if m < 2 then decide (x = (0, 0, 7)) else decide (1 ≤ x.1 ∧ x.1 ≤ 63 ∧ 3 ≤ x.2.1 ∧ x.2.1 ≤ 9 ∧ x.2.2 = 0)
theorem nine_all : ∀ m : Fin 512, nineOk m.val = true := by decide +kernel
theorem nine_cells {m : Nat} (h : m < 512) : byteCells (nineB m) = [.int .u8 ((m / 2 : Nat) : Int), .int .u8 ((m * 128 % 256 : Nat) : Int)] := by
  have h1 : (UInt8.ofNat (m / 2)).toNat = m / 2 := by rw [UInt8.toNat_ofNat']; omega
  have h2 : (UInt8.ofNat (m * 128 % 256)).toNat = m * 128 % 256 := by rw [UInt8.toNat_ofNat']; omega
  unfold nineB byteCells
  simp only [List.map_cons, List.map_nil, h1, h2]

set_option maxRecDepth 100000 in
set_option maxHeartbeats 4000000 in
theorem PatternSums_walk {w : World} (hsp : Spaced w) (n : Int) (hn : -9223372036854775808 ≤ n ∧ n ≤ 9223372036854775807) :
    Calls Tryd.prog 6 #[.int .i64 n] w fun e w' => e = .returned (.bool true) ∧ OnlyIn [] w w' := by
  have hkn := known07 hsp
  have HSP := Lib.hid hsp
  clear hsp
  go_enter Tryd.func6, Tryd.ntmps6
  go_wp2_with (go_at_call 5; refine hkn.mono ?_; rintro e w1 ⟨rfl, ht⟩; clear hkn)
  go_loopw [4, 5, 6] (fun s m i wr => ∃ k : Nat, k ≤ 10 ∧ s = .int .i64 (sumP n k : Int) ∧ m = .int .i64 (manyP n k : Int) ∧ i = .int .i64 ((k : Int) - 1) ∧ OnlyIn [] w wr) (fun _ _ i _ => (9 - intOf i).toNat)
  case atStart => exact ⟨0, by omega, rfl, rfl, rfl, ht⟩
  case round =>
    clear ht
    obtain ⟨k, hk, rfl, rfl, rfl, hto⟩ := hrel
    by_cases hlt : k < 10
    · have hh := pHas_any wr n ((k : Int) - 1)
      have hd : decide ((k : Int) - 1 ≤ 8) = true := decide_eq_true (by omega)
      have hs1 : sumP n (k + 1) = sumP n k + if hasF n ((k : Int) - 1) then 2 ^ (7 - k) else 0 := rfl
      have hm1 : manyP n (k + 1) = manyP n k + if hasF n ((k : Int) - 1) then 1 else 0 := rfl
      have hl1 := sumP_le n k
      have hl2 := manyP_le n k
      obtain ⟨s, hs⟩ : ∃ s, sumP n k = s := ⟨_, rfl⟩
      obtain ⟨q, hq⟩ : ∃ q, manyP n k = q := ⟨_, rfl⟩
      rw [hs] at hs1 hl1
      rw [hq] at hm1 hl2
      rw [hs, hq]
      obtain ⟨z, hz⟩ : ∃ z, hasF n ((k : Int) - 1) = z := ⟨_, rfl⟩
      rw [hz] at hh hs1 hm1
      cases z with
      | true =>
        obtain ⟨hb1, hb2⟩ := hasF_block hz
        simp only [if_true] at hs1 hm1
        have HH := Lib.hid (And.intro hto (And.intro hs1 hm1))
        have hsb : s ≤ 1280 := by omega
        have hqb : q ≤ 10 := by omega
        clear hto hs1 hm1 hs hq hz hl1 hl2 hd
        rcases (by omega : k = 2 ∨ k = 3 ∨ k = 4 ∨ k = 5 ∨ k = 6 ∨ k = 7) with rfl | rfl | rfl | rfl | rfl | rfl
        · go_wp2_with (go_at_call 16; refine hh.mono ?_; rintro e w2 ⟨rfl, ht2⟩)
          go_roundw
          case rel => exact ⟨3, by omega, by rw [HH.out.2.1]; go_num, by rw [HH.out.2.2]; go_num, by go_num, HH.out.1.trans ht2⟩
          case measure => simp [intOf]
        · go_wp2_with (go_at_call 16; refine hh.mono ?_; rintro e w2 ⟨rfl, ht2⟩)
          go_roundw
          case rel => exact ⟨4, by omega, by rw [HH.out.2.1]; go_num, by rw [HH.out.2.2]; go_num, by go_num, HH.out.1.trans ht2⟩
          case measure => simp [intOf]
        · go_wp2_with (go_at_call 16; refine hh.mono ?_; rintro e w2 ⟨rfl, ht2⟩)
          go_roundw
          case rel => exact ⟨5, by omega, by rw [HH.out.2.1]; go_num, by rw [HH.out.2.2]; go_num, by go_num, HH.out.1.trans ht2⟩
          case measure => simp [intOf]
        · go_wp2_with (go_at_call 16; refine hh.mono ?_; rintro e w2 ⟨rfl, ht2⟩)
          go_roundw
          case rel => exact ⟨6, by omega, by rw [HH.out.2.1]; go_num, by rw [HH.out.2.2]; go_num, by go_num, HH.out.1.trans ht2⟩
          case measure => simp [intOf]
        · go_wp2_with (go_at_call 16; refine hh.mono ?_; rintro e w2 ⟨rfl, ht2⟩)
          go_roundw
          case rel => exact ⟨7, by omega, by rw [HH.out.2.1]; go_num, by rw [HH.out.2.2]; go_num, by go_num, HH.out.1.trans ht2⟩
          case measure => simp [intOf]
        · go_wp2_with (go_at_call 16; refine hh.mono ?_; rintro e w2 ⟨rfl, ht2⟩)
          go_roundw
          case rel => exact ⟨8, by omega, by rw [HH.out.2.1]; go_num, by rw [HH.out.2.2]; go_num, by go_num, HH.out.1.trans ht2⟩
          case measure => simp [intOf]
      | false =>
        simp only [Bool.false_eq_true, if_false, Nat.add_zero] at hs1 hm1
        have HH := Lib.hid (And.intro hto (And.intro hs1 hm1))
        clear hto hs1 hm1 hs hq hz hl1 hl2
        go_wp2_with (go_at_call 16; refine hh.mono ?_; rintro e w2 ⟨rfl, ht2⟩)
        go_roundw
        case rel => exact ⟨k + 1, by omega, by rw [HH.out.2.1], by rw [HH.out.2.2], by go_num, HH.out.1.trans ht2⟩
        case measure => simp [intOf]; omega
    · obtain rfl : k = 10 := by omega
      have hc := pCount_any wr n
      by_cases hin : 1 ≤ n ∧ n ≤ 63
      · obtain ⟨m, rfl⟩ := Int.eq_ofNat_of_zero_le (by omega : 0 ≤ n)
        obtain ⟨h1, h2⟩ := sumP_all ⟨m, by omega⟩ (by simp; omega)
        simp only at h1 h2
        rw [h1, h2]
        have d1 : decide ((m : Int) < 1) = false := decide_eq_false (by omega)
        have d2 : decide ((63 : Int) < (m : Int)) = false := decide_eq_false (by omega)
        generalize cntTo (m : Int) 6 = q at hc
        have b1 : ((m : Int) == (m : Int)) = true := by simp
        have b2 : ((q : Int) == (q : Int)) = true := by simp
        have HT := Lib.hid hto
        clear hto h1 h2 hin
        go_wp2_with (go_at_call 18; refine hc.mono ?_; rintro e w2 ⟨rfl, ht2⟩)
        go_ret
        exact ⟨rfl, HT.out.trans ht2⟩
      · rw [sumP_bad hin]
        rw [cntTo_bad hin] at hc
        have HT := Lib.hid hto
        clear hto
        by_cases h1 : n < 1
        · have d1 : decide (n < (1 : Int)) = true := decide_eq_true h1
          go_wp2_with (go_at_call 18; refine hc.mono ?_; rintro e w2 ⟨rfl, ht2⟩)
          go_ret
          exact ⟨rfl, HT.out.trans ht2⟩
        · have d1 : decide (n < (1 : Int)) = false := decide_eq_false h1
          have d2 : decide ((63 : Int) < n) = true := decide_eq_true (by omega)
          go_wp2_with (go_at_call 18; refine hc.mono ?_; rintro e w2 ⟨rfl, ht2⟩)
          go_ret
          exact ⟨rfl, HT.out.trans ht2⟩

set_option maxRecDepth 100000 in
set_option maxHeartbeats 4000000 in
theorem PatternNoughts_walk {w : World} (hsp : Spaced w) (n : Int) (hn : -9223372036854775808 ≤ n ∧ n ≤ 9223372036854775807) :
    Calls Tryd.prog 7 #[.int .i64 n] w fun e w' => e = .returned (.bool true) ∧ OnlyIn [] w w' := by
  have haw := awake07 w hsp
  have hpa := fun w9 => Pick_any n 512 w9 (by omega) (by omega) hn.1 hn.2
  obtain ⟨m, hm⟩ : ∃ m : Nat, n % 512 = (m : Int) := Int.eq_ofNat_of_zero_le (Int.emod_nonneg _ (by omega))
  have hm5 : m < 512 := by have := Int.emod_lt_of_pos n (show (0 : Int) < 512 by omega); omega
  rw [hm] at hpa
  have hnine := nine_all ⟨m, hm5⟩
  simp only [nineOk] at hnine
  have hcs := nine_cells hm5
  have hg := fun w1 (ho : OnlyIn [] w w1) => pGet_any (w1.alloc (.cells (byteCells (nineB m)).toArray 5)) (hsp.only (ho.alloc _)) _ (nineB m) (Rd.lit w1 (byteCells (nineB m)) 5 2 rfl) (show 2 ≤ 1000000000 by decide) 0 (by omega)
  obtain ⟨⟨x, sz, er⟩, hx⟩ : ∃ y, getT PT (nineB m) 0 = y := ⟨_, rfl⟩
  rw [hx] at hg hnine
  simp only [hcs] at hg
  simp only at hnine
  obtain ⟨h1, hh1⟩ : ∃ h, m / 2 = h := ⟨_, rfl⟩
  obtain ⟨h2, hh2⟩ : ∃ h, m * 128 % 256 = h := ⟨_, rfl⟩
  have v1 : IntKind.u8.wrap ((m : Int) / 2) = (h1 : Int) := by rw [IntKind.wrap_u8]; omega
  have v2 : IntKind.u8.wrap ((m : Int) * 128) = (h2 : Int) := by rw [IntKind.wrap_u8]; omega
  rw [hh1, hh2] at hg
  have HSP := Lib.hid hsp
  clear hx hcs hm hsp hh1 hh2
  by_cases hm2 : m < 2
  · rw [if_pos hm2] at hnine
    have hq := of_decide_eq_true hnine
    simp only [Prod.mk.injEq] at hq
    obtain ⟨rfl, rfl, rfl⟩ := hq
    have d0 : decide ((m : Int) < 2) = true := decide_eq_true (by omega)
    clear hnine
    go_enter Tryd.func7, Tryd.ntmps7
    go_wp2_with (first | (go_at_call 9; refine haw.mono ?_; rintro e w1 ⟨rfl, ht1⟩) | (go_at_call 22; refine (hpa _).mono ?_; rintro e w' ⟨rfl, rfl⟩) | (go_at_call 11; refine (hg _ ht1).mono ?_; rintro e w3 ⟨rfl, ht3⟩))
    go_ret
    exact ⟨rfl, (ht1.alloc _).trans ht3⟩
  · rw [if_neg hm2] at hnine
    have hq := of_decide_eq_true hnine
    obtain ⟨q1, q2, q3, q4, rfl⟩ := hq
    have d0 : decide ((m : Int) < 2) = false := decide_eq_false (by omega)
    clear hnine
    go_enter Tryd.func7, Tryd.ntmps7
    go_wp2_with (first | (go_at_call 9; refine haw.mono ?_; rintro e w1 ⟨rfl, ht1⟩) | (go_at_call 22; refine (hpa _).mono ?_; rintro e w' ⟨rfl, rfl⟩) | (go_at_call 11; refine (hg _ ht1).mono ?_; rintro e w3 ⟨rfl, ht3⟩))
    go_ret
    exact ⟨by simp [q1, q2, q3, q4], (ht1.alloc _).trans ht3⟩
end Go.Proofs.YteblkjmeaojegaaDoor
