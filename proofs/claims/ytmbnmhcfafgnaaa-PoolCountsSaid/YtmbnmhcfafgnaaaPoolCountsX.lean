/-
  Law 23: PoolCounts: the long list, and all in one.
-/
import Derived.Test.YtmbnmhcfafgnaaaPoolCountsW
namespace Go.Proofs.Ytmbnmhcfafgnaaa
open Go.RowKit Go.Mine

set_option maxRecDepth 100000 in
theorem counts_long (w : World) (a0 a1 : Int) (g0 : -9223372036854775808 ≤ a0 ∧ a0 ≤ 9223372036854775807) (g1 : -9223372036854775808 ≤ a1 ∧ a1 ≤ 9223372036854775807) (A : Option Addr) (n c : Nat) (hn : 80 < n) :
    Calls Try.prog 9 #[.int .i64 a0, .int .i64 a1, .slice A n c] w fun e w' => e = .returned (.bool true) ∧ OnlyIn [] w w' := by
  obtain ⟨N, hN⟩ : ∃ N : Nat, (N : Int) = 1 + a0 % 10 := ⟨(1 + a0 % 10).toNat, by omega⟩
  have hN1 : 1 ≤ N ∧ N ≤ 10 := by omega
  have hw1 : IntKind.i64.wrap (1 + a0 % 10) = (N : Int) := by rw [IntKind.wrap_i64]; omega
  have hp1 := fun W => Pick_any a0 10 W (by omega) (by omega) g0.1 g0.2
  have hp2 := fun W => Pick_any a1 N W (by omega) (by omega) g1.1 g1.2
  have hl1 : decide (80 < (n : Int)) = true := decide_eq_true (by omega)
  have hl2 : decide (80 < n) = true := decide_eq_true (by omega)
  clear hn
  generalize a0 % 10 = x1 at hp1 hw1
  generalize a1 % (N : Int) = x2 at hp2
  clear hN
  go_enter Try.func9, Try.ntmps9
  go_wp2_with fail
  refine (known23 w).mono ?_
  rintro e w1 ⟨rfl, o1⟩
  replace o1 := Lib.hid o1
  go_wp2_with fail
  refine (hp1 _).mono ?_
  rintro e w' ⟨rfl, rfl⟩
  go_wp2_with fail
  refine (hp2 _).mono ?_
  rintro e w' ⟨rfl, rfl⟩
  clear hp1 hp2
  go_wp2_with fail
  go_ret
  exact ⟨rfl, o1.out⟩

set_option maxRecDepth 100000 in
theorem PoolCounts_walk {w : World} (a0 : Int) (g0 : -9223372036854775808 ≤ a0 ∧ a0 ≤ 9223372036854775807) (a1 : Int) (g1 : -9223372036854775808 ≤ a1 ∧ a1 ≤ 9223372036854775807) (x : Value × List Act23) (y : Rd w 4 x.1 x.2.length (x.2.flatMap Act23.cells) ∧ (∀ a ∈ x.2, a.ok) ∧ x.2.length ≤ maxLen) :
    Calls Try.prog 9 #[.int .i64 a0, .int .i64 a1, x.1] w fun e w' => e = .returned (.bool true) ∧ OnlyIn [] w w' := by
  obtain ⟨v, acts⟩ := x
  obtain ⟨⟨-, A, c, hv, -, hA⟩, hok, -⟩ := y
  simp only at hv hA hok ⊢
  subst hv
  by_cases hac : acts.length ≤ 80
  · exact counts_ok w a0 a1 (1 + a0 % 10).toNat (1 + a1 % (1 + a0 % 10).toNat) (by omega) rfl g0 g1 A c acts hA hok hac
  · exact counts_long w a0 a1 g0 g1 A acts.length c (by omega)
end Go.Proofs.Ytmbnmhcfafgnaaa
