/-
  Package praxinoscopekit: Pick.
-/
import Derived.Test.YtmbnmhcfafgnaaaBase
import Derived.Test.YtmbnmhcfafgnaaaRows
namespace Go.Proofs.Ytmbnmhcfafgnaaa
open Go.RowKit Go.Mine

theorem tmod_neg {x n : Int} (hn : 0 < n) (h : x < 0) : x.tmod n = if x % n = 0 then 0 else x % n - n := by
  rw [Int.tmod_eq_emod]
  have hd : n ∣ x ↔ x % n = 0 := Int.dvd_iff_emod_eq_zero
  split <;> rename_i hh
  · rcases hh with hh | hh
    · omega
    · rw [if_pos (hd.1 hh)]; omega
  · rw [if_neg (fun he => hh (.inr (hd.2 he)))]; omega

set_option maxRecDepth 100000 in
theorem Pick_any (x n : Int) (w : World) (hn : 0 < n) (hn2 : n ≤ 4611686018427387904) (hx : -9223372036854775808 ≤ x) (hx2 : x ≤ 9223372036854775807) :
    Calls Try.prog 28 #[.int .i64 x, .int .i64 n] w fun e w' => e = .returned (.int .i64 (x % n)) ∧ w = w' := by
  have h0 : 0 ≤ x % n := Int.emod_nonneg _ (by omega)
  have h1 : x % n < n := Int.emod_lt_of_pos _ hn
  by_cases h : 0 ≤ x
  · go_enter Try.func28, Try.ntmps28
    go_wp2
    go_ret
    exact ⟨rfl, rfl⟩
  · have ht := tmod_neg hn (by omega : x < 0)
    by_cases hz : x % n = 0
    · rw [if_pos hz] at ht
      have HZ := Lib.hid hz
      clear hz
      go_enter Try.func28, Try.ntmps28
      go_wp2
      go_ret
      rw [HZ.out]
      exact ⟨rfl, rfl⟩
    · rw [if_neg hz] at ht
      go_enter Try.func28, Try.ntmps28
      go_wp2
      go_ret
      exact ⟨rfl, rfl⟩

end Go.Proofs.Ytmbnmhcfafgnaaa
