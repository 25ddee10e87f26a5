/-
  Law 23: PoolOwn: the long list, and all in one.
-/
import Derived.Test.YtmbnmhcfafgnaaaPoolOwnX
namespace Go.Proofs.Ytmbnmhcfafgnaaa
open Go.RowKit Go.Mine

set_option maxRecDepth 100000 in
theorem own_long (w : World) (a0 : Int) (g0 : -9223372036854775808 ≤ a0 ∧ a0 ≤ 9223372036854775807) (A : Option Addr) (n c : Nat) (u : Value) (hn : 20 < n) :
    Calls Try.prog 12 #[.int .i64 a0, .slice A n c, u] w fun e w' => e = .returned (.bool true) ∧ OnlyIn [] w w' := by
  have hp1 := fun W => Pick_any a0 6 W (by omega) (by omega) g0.1 g0.2
  have hl1 : decide (20 < (n : Int)) = true := decide_eq_true (by omega)
  have hl2 : decide (20 < n) = true := decide_eq_true (by omega)
  clear hn
  generalize a0 % 6 = x1 at hp1
  go_enter Try.func12, Try.ntmps12
  go_wp2_with fail
  refine (known23 w).mono ?_
  rintro e w1 ⟨rfl, o1⟩
  replace o1 := Lib.hid o1
  go_wp2_with fail
  refine (hp1 _).mono ?_
  rintro e w' ⟨rfl, rfl⟩
  clear hp1
  go_wp2_with fail
  go_ret
  exact ⟨rfl, o1.out⟩

set_option maxRecDepth 100000 in
theorem PoolOwn_walk {w : World} (a0 : Int) (g0 : -9223372036854775808 ≤ a0 ∧ a0 ≤ 9223372036854775807) (x : Value × List Int) (hx : Rd w 1 x.1 x.2.length (intCells x.2) ∧ (∀ z ∈ x.2, -9223372036854775808 ≤ z ∧ z ≤ 9223372036854775807) ∧ x.2.length ≤ maxLen)
    (y : Value × List Int) (hy : Rd w 1 y.1 y.2.length (intCells y.2) ∧ (∀ z ∈ y.2, -9223372036854775808 ≤ z ∧ z ≤ 9223372036854775807) ∧ y.2.length ≤ maxLen) :
    Calls Try.prog 12 #[.int .i64 a0, x.1, y.1] w fun e w' => e = .returned (.bool true) ∧ OnlyIn [] w w' := by
  obtain ⟨v, xs⟩ := x
  obtain ⟨u, ys⟩ := y
  obtain ⟨⟨-, A1, c1, hv, -, h1⟩, b1, -⟩ := hx
  obtain ⟨⟨-, A2, c2, hu, -, h2⟩, b2, -⟩ := hy
  simp only at hv hu h1 h2 b1 b2 ⊢
  subst hv
  subst hu
  by_cases hac : xs.length ≤ 20
  · exact own_ok w a0 (1 + a0 % 6).toNat (by omega) g0 A1 A2 _ _ c1 c2 xs ys rfl rfl h1 h2 b1 b2 hac
  · exact own_long w a0 g0 A1 _ c1 _ (by omega)
end Go.Proofs.Ytmbnmhcfafgnaaa
