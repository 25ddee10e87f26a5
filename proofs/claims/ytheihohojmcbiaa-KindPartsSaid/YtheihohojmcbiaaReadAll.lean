/-
  What bits.Read answers to any numbers.
-/
import Derived.Test.YtheihohojmcbiaaBits
namespace Go.Mine
/-- What Read answers to any numbers. -/
def readOf (bs : List UInt8) (i n : Int) : Int × Int :=
  if i < 0 ∨ n < 0 ∨ 32 < n then (0, 3) else if 8 * (bs.length : Int) < i + n then (0, 5) else ((numAt bs i.toNat n.toNat : Int), 0)
theorem readOf_ok {bs : List UInt8} {i n : Nat} (hn : n ≤ 32) (h : i + n ≤ 8 * bs.length) : readOf bs (i : Int) (n : Int) = ((numAt bs i n : Int), 0) := by
  rw [readOf, if_neg (by omega), if_neg (by omega)]; simp
end Go.Mine
namespace Go.Proofs.Ytheihohojmcbiaa
open Go.RowKit Go.Mine

set_option maxRecDepth 100000 in
theorem Read_all (w : World) (v : Value) (bs : List UInt8) (hr : Rd w 1 v bs.length (byteCells bs)) (hl : bs.length ≤ 1000000000) (i n : Int) (hi : i ≤ 9223372036854775807) :
    Calls Try.prog 83 #[v, .int .i64 i, .int .i64 n] w fun e w' => e = .returned (.tuple #[.int .i64 (readOf bs i n).1, .int .i64 (readOf bs i n).2]) ∧ w = w' := by
  unfold readOf
  by_cases h1 : i < 0 ∨ n < 0 ∨ 32 < n
  · rw [if_pos h1]; exact Read_range w v i n h1
  · rw [if_neg h1]
    obtain ⟨A, c, rfl⟩ : ∃ A c, v = .slice A bs.length c := by
      obtain ⟨-, A, c, rfl, -⟩ := hr
      exact ⟨A, c, rfl⟩
    by_cases h2 : 8 * (bs.length : Int) < i + n
    · rw [if_pos h2]; exact Read_more w A bs.length c hl i n (by omega) hi (by omega) (by omega) h2
    · rw [if_neg h2]
      obtain ⟨i, rfl⟩ := Int.eq_ofNat_of_zero_le (by omega : 0 ≤ i)
      obtain ⟨n, rfl⟩ := Int.eq_ofNat_of_zero_le (by omega : 0 ≤ n)
      exact Read_ok w _ bs hr hl i n (by omega) (by omega)
end Go.Proofs.Ytheihohojmcbiaa
