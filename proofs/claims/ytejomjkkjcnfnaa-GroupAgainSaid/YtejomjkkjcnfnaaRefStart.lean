/-
  The reference for layer 1: noughts, Start.
-/
import Derived.Test.YtejomjkkjcnfnaaRef01
import Derived.Test.YtejomjkkjcnfnaaLaw01
namespace Go.Proofs.Ytejomjkkjcnfnaa
open Go.RowKit Go.Mine

set_option maxRecDepth 100000 in
theorem rnoughts_any (w : World) (v : Value) (bs : List UInt8) (hr : Rd w 1 v bs.length (byteCells bs)) (i : Nat) (hi : i ≤ 8 * bs.length) (hl : bs.length ≤ 1000000000) :
    Calls Try.prog 72 #[v, .int .i64 (i : Int)] w fun e w' => e = .returned (.int .i64 (noughts bs i : Int)) ∧ OnlyIn [] w w' := by
  have hr' := hr
  obtain ⟨-, A, c, rfl, hc, -⟩ := hr'
  have hb : ∀ W k, OnlyIn [] w W → i + k < 8 * bs.length → Calls Try.prog 71 #[.slice A bs.length c, .int .i64 ((i : Int) + (k : Int))] W fun e w' => e = .returned (.int .i64 (bitAt bs (i + k) : Int)) ∧ W = w' := fun W k hW hk => by
    rw [show ((i : Int) + (k : Int)) = ((i + k : Nat) : Int) from by omega]
    exact rbit_any W _ bs (hr.cells fun p u hp => hW.cell hp (by simp)) (i + k) hk hl
  clear hr
  go_enter Try.func72, Try.ntmps72
  go_wp2_with fail
  go_loopw [5] (fun m wr => ∃ k : Nat, i + k ≤ 8 * bs.length ∧ m = .int .i64 (k : Int) ∧ (∀ j, j < k → bitAt bs (i + j) = 0) ∧ OnlyIn [] w wr) (fun m _ => 8 * bs.length - (intOf m).toNat)
  case atStart => exact ⟨0, by omega, rfl, fun j hj => absurd hj (Nat.not_lt_zero j), OnlyIn.refl _ _⟩
  case round =>
    obtain ⟨k, hk, rfl, hz, hto⟩ := hrel
    by_cases hlt : i + k < 8 * bs.length
    · have hlt2 : (i : Int) + (k : Int) < 8 * (bs.length : Int) := by omega
      have hk1 := hb wr k hto hlt
      have hbl := bitAt_lt bs (i + k)
      obtain ⟨b, hbb⟩ : ∃ b, bitAt bs (i + k) = b := ⟨_, rfl⟩
      rw [hbb] at hk1 hbl
      by_cases h0 : b = 0
      · subst h0
        have hmeas : 8 * bs.length - (k + 1) < 8 * bs.length - k := by omega
        have HH := Lib.hid (And.intro hz (And.intro hto hbb))
        clear hz hto hb hbb
        go_wp2_with (first | (go_at_call 70; refine (rCount_any _ A bs.length c hl).mono ?_; rintro e w' ⟨rfl, rfl⟩) | (go_at_call 71; refine hk1.mono ?_; rintro e w' ⟨rfl, rfl⟩))
        go_roundw
        case rel =>
          obtain ⟨hz, hto, hbb⟩ := HH.out
          refine ⟨k + 1, by omega, by go_num, fun j hj => ?_, hto⟩
          rcases Nat.lt_or_ge j k with h | h
          · exact hz j h
          · rw [show j = k by omega]; exact hbb
        case measure => simp [intOf]; exact hmeas
      · have h1 : noughts bs i = k := noughts_is hlt hz (by rw [hbb]; omega)
        have hb1 : b = 1 := by omega
        subst hb1
        have HN := Lib.hid h1
        clear hz hb hbb h1 h0 hbl
        go_wp2_with (first | (go_at_call 70; refine (rCount_any _ A bs.length c hl).mono ?_; rintro e w' ⟨rfl, rfl⟩) | (go_at_call 71; refine hk1.mono ?_; rintro e w' ⟨rfl, rfl⟩))
        go_ret
        exact ⟨by rw [HN.out]; rfl, hto⟩
    · have h1 : noughts bs i = k := noughtsF_is bs _ i k (by omega) hz (fun h => absurd h (by omega))
      have hlt2 : ¬ (i : Int) + (k : Int) < 8 * (bs.length : Int) := by omega
      have HN := Lib.hid h1
      clear hz hb h1
      go_wp2_with (go_at_call 70; refine (rCount_any _ A bs.length c hl).mono ?_; rintro e w' ⟨rfl, rfl⟩)
      go_ret
      exact ⟨by rw [HN.out]; rfl, hto⟩

set_option maxRecDepth 100000 in
theorem rStart_all (w : World) (v : Value) (bs : List UInt8) (hr : Rd w 1 v bs.length (byteCells bs)) (hl : bs.length ≤ 1000000000) (i : Int) :
    Calls Try.prog 63 #[v, .int .i64 i] w fun e w' => e = .returned (.tuple #[.int .i64 (startAll bs i).1, .int .i64 (startAll bs i).2.1, .int .i64 (startAll bs i).2.2]) ∧ OnlyIn [] w w' := by
  have hr' := hr
  obtain ⟨-, A, c, rfl, hc, -⟩ := hr'
  by_cases h1 : i < 0
  · rw [startAll, if_pos h1]
    go_enter Try.func63, Try.ntmps63
    go_wp2
    go_ret3
    exact ⟨rfl, OnlyIn.refl _ _⟩
  rw [startAll, if_neg h1]
  obtain ⟨i, rfl⟩ := Int.eq_ofNat_of_zero_le (by omega : 0 ≤ i)
  simp only [Int.toNat_natCast]
  by_cases h2 : 8 * bs.length ≤ i
  · rw [startOf, if_pos (by omega)]
    have h3 : 8 * (bs.length : Int) ≤ (i : Int) := by omega
    clear hr
    go_enter Try.func63, Try.ntmps63
    go_wp2_with (go_at_call 70; refine (rCount_any _ A bs.length c hl).mono ?_; rintro e w' ⟨rfl, rfl⟩)
    go_ret3
    exact ⟨rfl, OnlyIn.refl _ _⟩
  have h3 : ¬ 8 * (bs.length : Int) ≤ (i : Int) := by omega
  have hn := fun W (hW : OnlyIn [] w W) => rnoughts_any W _ bs (hr.cells fun p u hp => hW.cell hp (by simp)) i (by omega) hl
  have hzl : i + noughts bs i ≤ 8 * bs.length := by have := noughtsF_le bs (8 * bs.length - i) i; unfold noughts; omega
  unfold startOf
  obtain ⟨z, hz⟩ : ∃ z, noughts bs i = z := ⟨_, rfl⟩
  rw [hz] at hn hzl ⊢
  clear hz
  by_cases h4 : 8 * bs.length ≤ i + z
  · rw [if_pos h4]
    have h5 : (i : Int) + (z : Int) = 8 * (bs.length : Int) := by omega
    clear hr
    go_enter Try.func63, Try.ntmps63
    go_wp2_with (first | (go_at_call 70; refine (rCount_any _ A bs.length c hl).mono ?_; rintro e w' ⟨rfl, rfl⟩) | (go_at_call 72; refine (hn _ (OnlyIn.refl _ _)).mono ?_; rintro e w1 ⟨rfl, ht1⟩))
    go_ret3
    exact ⟨rfl, ht1⟩
  rw [if_neg h4]
  have h5 : ¬ (i : Int) + (z : Int) = 8 * (bs.length : Int) := by omega
  by_cases h6 : z < 15
  · rw [if_pos h6]
    clear hr
    go_enter Try.func63, Try.ntmps63
    go_wp2_with (first | (go_at_call 70; refine (rCount_any _ A bs.length c hl).mono ?_; rintro e w' ⟨rfl, rfl⟩) | (go_at_call 72; refine (hn _ (OnlyIn.refl _ _)).mono ?_; rintro e w1 ⟨rfl, ht1⟩))
    go_ret3
    exact ⟨rfl, ht1⟩
  rw [if_neg h6]
  have hrd := fun W (hW : OnlyIn [] w W) => rRead_all W _ bs (hr.cells fun p u hp => hW.cell hp (by simp)) hl ((i : Int) + (z : Int) + 1) 4 (by omega)
  by_cases h7 : i + z + 5 ≤ 8 * bs.length
  · rw [if_pos h7]
    have hro : readOf bs ((i : Int) + (z : Int) + 1) 4 = ((numAt bs (i + z + 1) 4 : Int), 0) := by
      have := readOf_ok (bs := bs) (i := i + z + 1) (n := 4) (by omega) (by omega)
      rw [← this]; congr 1
    rw [hro] at hrd
    obtain ⟨x, hx⟩ : ∃ x, numAt bs (i + z + 1) 4 = x := ⟨_, rfl⟩
    rw [hx] at hrd ⊢
    clear hr hx hro
    go_enter Try.func63, Try.ntmps63
    go_wp2_with (first | (go_at_call 70; refine (rCount_any _ A bs.length c hl).mono ?_; rintro e w' ⟨rfl, rfl⟩) | (go_at_call 72; refine (hn _ (OnlyIn.refl _ _)).mono ?_; rintro e w1 ⟨rfl, ht1⟩) | (go_at_call 61; refine (hrd _ ht1).mono ?_; rintro e w2 ⟨rfl, ht2⟩))
    go_ret3
    exact ⟨rfl, ht1.trans ht2⟩
  · rw [if_neg h7]
    have hro : readOf bs ((i : Int) + (z : Int) + 1) 4 = (0, 5) := by
      rw [readOf, if_neg (by omega), if_pos (by omega)]
    rw [hro] at hrd
    clear hr hro
    go_enter Try.func63, Try.ntmps63
    go_wp2_with (first | (go_at_call 70; refine (rCount_any _ A bs.length c hl).mono ?_; rintro e w' ⟨rfl, rfl⟩) | (go_at_call 72; refine (hn _ (OnlyIn.refl _ _)).mono ?_; rintro e w1 ⟨rfl, ht1⟩) | (go_at_call 61; refine (hrd _ ht1).mono ?_; rintro e w2 ⟨rfl, ht2⟩))
    go_ret3
    exact ⟨rfl, ht1.trans ht2⟩
end Go.Proofs.Ytejomjkkjcnfnaa
