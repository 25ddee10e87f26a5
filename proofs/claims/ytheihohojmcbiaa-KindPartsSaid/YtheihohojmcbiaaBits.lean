/-
  Package bits: bit, Count, Read.
-/
import Derived.Test.YtheihohojmcbiaaSlice
import Derived.Test.YtheihohojmcbiaaRows
import Derived.Test.YtheihohojmcbiaaBitsSpec
import Derived.WalkLawsBesides
import Derived.Laws.BitsAllLaws
import Derived.Laws.BitsLemmas
namespace Go.Mine

/-! ### bits of numbers that are not negative -/
theorem ofInt_i64 (a : Nat) (ha : a < 9223372036854775808) : (BitVec.ofInt 64 (a : Int)).toNat = a := by
  rw [BitVec.ofInt_natCast, BitVec.toNat_ofNat]; exact Nat.mod_eq_of_lt (by omega)
theorem and_i64 (a b : Nat) (ha : a < 9223372036854775808) (hb : b < 9223372036854775808) : bits .and .i64 (a : Int) (b : Int) = ((a &&& b : Nat) : Int) := by
  have hx : a &&& b < 2 ^ 63 := Nat.and_lt_two_pow _ (by omega)
  show IntKind.i64.wrap ((BitVec.ofInt 64 (a : Int) &&& BitVec.ofInt 64 (b : Int)).toNat : Int) = _
  rw [BitVec.toNat_and, ofInt_i64 a ha, ofInt_i64 b hb, IntKind.wrap_i64]
  omega
theorem or_i64 (a b : Nat) (ha : a < 9223372036854775808) (hb : b < 9223372036854775808) : bits .or .i64 (a : Int) (b : Int) = ((a ||| b : Nat) : Int) := by
  have hx : a ||| b < 2 ^ 63 := Nat.or_lt_two_pow (by omega) (by omega)
  show IntKind.i64.wrap ((BitVec.ofInt 64 (a : Int) ||| BitVec.ofInt 64 (b : Int)).toNat : Int) = _
  rw [BitVec.toNat_or, ofInt_i64 a ha, ofInt_i64 b hb, IntKind.wrap_i64]
  omega
theorem and7 (a : Nat) (ha : a < 9223372036854775808) : bits .and .i64 (a : Int) 7 = (a : Int) % 8 := by
  have h := and_i64 a 7 ha (by omega)
  rw [show (7 : Nat) = 2 ^ 3 - 1 from rfl, Nat.and_two_pow_sub_one_eq_mod] at h
  exact h
theorem and1 (a : Nat) (ha : a < 9223372036854775808) : bits .and .i64 (a : Int) 1 = ((a % 2 : Nat) : Int) := by
  have h := and_i64 a 1 ha (by omega)
  rw [show (1 : Nat) = 2 ^ 1 - 1 from rfl, Nat.and_two_pow_sub_one_eq_mod] at h
  exact h
theorem or_bit (a b : Nat) (ha : a < 4611686018427387904) (hb : b < 2) : bits .or .i64 ((a : Int) * 2) (b : Int) = ((2 * a + b : Nat) : Int) := by
  have h := or_i64 (2 * a) b (by omega) (by omega)
  have e : ((2 * a : Nat) : Int) = (a : Int) * 2 := by omega
  rw [e] at h
  rw [h]
  have h2 := Nat.shiftLeft_add_eq_or_of_lt (i := 1) (b := b) (by omega) a
  rw [Nat.shiftLeft_eq, Nat.pow_one, Nat.mul_comm] at h2
  rw [← h2]
theorem run_shr_nat {P : Program} {k yk : IntKind} (x : Nat) (y : Int) (n : Nat) (hy : y = (n : Int)) (hn : n ≤ k.bits) (w : World) : (Op.shift .shr k (x : Int) yk y).run P w = .ok (.int k ((x / 2 ^ n : Nat) : Int)) w := by
  subst hy
  have h1 : ¬ ((n : Int) < 0) := by omega
  have h2 : min (n : Int).toNat k.bits = n := by simp; omega
  have h3 : ((x : Int).fdiv (2 ^ n)) = ((x / 2 ^ n : Nat) : Int) := by
    rw [Int.fdiv_eq_ediv_of_nonneg _ (Int.le_of_lt (Int.pow_pos (by decide)))]
    simp
  unfold Op.shift
  rw [if_neg h1]
  simp only [h2, h3]
  rfl
end Go.Mine
namespace Go.Proofs.Ytheihohojmcbiaa
open Go.RowKit Go.Mine

set_option maxRecDepth 100000 in
theorem bit_any (w : World) (v : Value) (bs : List UInt8) (hr : Rd w 1 v bs.length (byteCells bs)) (i : Nat) (hi : i < 8 * bs.length) (hl : bs.length ≤ 1000000000) :
    Calls Try.prog 87 #[v, .int .i64 (i : Int)] w fun e w' => e = .returned (.int .i64 (bitAt bs i : Int)) ∧ w = w' := by
  obtain ⟨-, A, c, rfl, hc, hA⟩ := hr
  obtain ⟨g, off, rfl, hg⟩ := hA (by omega)
  have hq : i / 8 < bs.length := by omega
  have q0 := hg (i / 8) (.int .u8 ((bs[i / 8]'hq).toNat : Int)) (by simp [byteCells, List.getElem?_eq_getElem hq])
  have hand := and7 i (by omega)
  have hs := shAt_lt bs i
  have hand1 : bits .and .i64 (shAt bs i : Int) 1 = (bitAt bs i : Int) := and1 _ (by omega)
  have hfin : bits .and .i64 (wrap64 (((bs[i / 8]'hq).toNat : Int) / 2 ^ (7 - i % 8))) 1 = (bitAt bs i : Int) := by
    have e : (((bs[i / 8]'hq).toNat : Int) / 2 ^ (7 - i % 8)) = (shAt bs i : Int) := by simp [shAt, List.getElem?_eq_getElem hq]
    rw [e, IntWalk.wrap64_in _ ⟨by omega, by omega⟩]
    exact hand1
  have HF := Lib.hid hfin
  clear hg hA hfin hand1
  go_enter Try.func87, Try.ntmps87
  go_wp2
  go_ret
  refine ⟨?_, rfl⟩
  rw [← HF.out]
  rfl

set_option maxRecDepth 100000 in
theorem Count_any (w : World) (A : Option Addr) (n c : Nat) (hl : n ≤ 1000000000) :
    Calls Try.prog 86 #[.slice A n c] w fun e w' => e = .returned (.int .i64 (8 * (n : Int))) ∧ w = w' := by
  go_enter Try.func86, Try.ntmps86
  go_wp2
  go_ret
  exact ⟨rfl, rfl⟩

set_option maxRecDepth 100000 in
theorem Read_range (w : World) (v : Value) (at_ n : Int) (h : at_ < 0 ∨ n < 0 ∨ 32 < n) :
    Calls Try.prog 83 #[v, .int .i64 at_, .int .i64 n] w fun e w' => e = .returned (.tuple #[.int .i64 0, .int .i64 3]) ∧ w = w' := by
  by_cases h1 : at_ < 0
  · go_enter Try.func83, Try.ntmps83
    go_wp2
    go_ret2
    exact ⟨rfl, rfl⟩
  · by_cases h2 : n < 0
    · go_enter Try.func83, Try.ntmps83
      go_wp2
      go_ret2
      exact ⟨rfl, rfl⟩
    · have h3 : 32 < n := by omega
      go_enter Try.func83, Try.ntmps83
      go_wp2
      go_ret2
      exact ⟨rfl, rfl⟩

set_option maxRecDepth 100000 in
theorem Read_more (w : World) (A : Option Addr) (m c : Nat) (hl : m ≤ 1000000000) (at_ n : Int) (h0 : 0 ≤ at_) (h0' : at_ ≤ 9223372036854775807) (h1 : 0 ≤ n) (h2 : n ≤ 32) (h : 8 * (m : Int) < at_ + n) :
    Calls Try.prog 83 #[.slice A m c, .int .i64 at_, .int .i64 n] w fun e w' => e = .returned (.tuple #[.int .i64 0, .int .i64 5]) ∧ w = w' := by
  by_cases h3 : 8 * (m : Int) < at_
  · go_enter Try.func83, Try.ntmps83
    go_wp2_with (go_at_call 86; refine (Count_any _ A m c hl).mono ?_; rintro e w' ⟨rfl, rfl⟩)
    go_ret2
    exact ⟨rfl, rfl⟩
  · have h4 : 8 * (m : Int) - at_ < n := by omega
    go_enter Try.func83, Try.ntmps83
    go_wp2_with (go_at_call 86; refine (Count_any _ A m c hl).mono ?_; rintro e w' ⟨rfl, rfl⟩)
    go_ret2
    exact ⟨rfl, rfl⟩

set_option maxRecDepth 100000 in
theorem Read_ok (w : World) (v : Value) (bs : List UInt8) (hr : Rd w 1 v bs.length (byteCells bs)) (hl : bs.length ≤ 1000000000) (i n : Nat) (hn : n ≤ 32) (h : i + n ≤ 8 * bs.length) :
    Calls Try.prog 83 #[v, .int .i64 (i : Int), .int .i64 (n : Int)] w fun e w' => e = .returned (.tuple #[.int .i64 (numAt bs i n : Int), .int .i64 0]) ∧ w = w' := by
  have hr2 := hr
  obtain ⟨-, A, c, rfl, hc, hA⟩ := hr2
  clear hA
  go_enter Try.func83, Try.ntmps83
  go_wp2_with (go_at_call 86; refine (Count_any _ A bs.length c hl).mono ?_; rintro e w' ⟨rfl, rfl⟩)
  go_loop [1, 2, 8] (fun a m x => ∃ k : Nat, k ≤ n ∧ a = .int .i64 ((i : Int) + (k : Int)) ∧ m = .int .i64 ((n : Int) - (k : Int)) ∧ x = .int .i64 (numAt bs i k : Int)) (fun _ m _ => (intOf m).toNat)
  case atStart => exact ⟨0, by omega, by simp, by simp, rfl⟩
  case round =>
    obtain ⟨k, hk, rfl, rfl, rfl⟩ := hrel
    by_cases hlt : k < n
    · have hb := bitAt_lt bs (i + k)
      have hnb := numAt_lt bs i k
      have hpow : 2 ^ k ≤ 2 ^ 31 := Nat.pow_le_pow_right (by omega) (by omega)
      have hor : bits .or .i64 ((numAt bs i k : Int) * 2) (bitAt bs (i + k) : Int) = (numAt bs i (k + 1) : Int) := or_bit _ _ (by omega) hb
      go_wp2_with fail
      rw [show ((i : Int) + (k : Int)) = ((i + k : Nat) : Int) from by omega]
      refine (bit_any w _ bs hr (i + k) (by omega) hl).mono ?_
      rintro e w' ⟨rfl, rfl⟩
      go_wp2_with fail
      go_round
      case rel => exact ⟨k + 1, by omega, by go_num, by go_num, rfl⟩
      case measure => simp [intOf]; omega
    · obtain rfl : k = n := by omega
      go_wp2_with fail
      go_ret2
      exact ⟨rfl, rfl⟩

end Go.Proofs.Ytheihohojmcbiaa
