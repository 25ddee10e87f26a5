/-
  Package picture and its reference: Check, Format.
-/
import Derived.Test.YtboipjdgccbjmaaPicText
import Derived.Laws.BitsLemmas
namespace Go.Mine
open Go.RowKit
/-- A header that may be. -/
def HeadOk (t y : Int) (n : Nat) : Prop := 0 ≤ t ∧ t ≤ 31 ∧ 0 ≤ y ∧ y ≤ 63 ∧ n ≤ 32
instance (t y : Int) (n : Nat) : Decidable (HeadOk t y n) := by unfold HeadOk; infer_instance
def checkOf (t y : Int) (n : Nat) : Int := if HeadOk t y n then 0 else 2
def formatOf (y : Int) : Int := y / 4 % 2
theorem andI (i : Nat) (hi : i ≤ 62) (a : Int) : bits .and .i64 a ((2 ^ i - 1 : Nat) : Int) = IntKind.i64.wrap (((a % 18446744073709551616).toNat % 2 ^ i : Nat) : Int) := by
  have hp : 2 ^ i ≤ 2 ^ 62 := Nat.pow_le_pow_right (by omega) hi
  show IntKind.i64.wrap (((BitVec.ofInt 64 a &&& BitVec.ofInt 64 ((2 ^ i - 1 : Nat) : Int)).toNat : Nat) : Int) = _
  rw [BitVec.toNat_and, BitVec.ofInt_natCast, BitVec.toNat_ofNat, Nat.mod_eq_of_lt (a := 2 ^ i - 1) (by omega), Nat.and_two_pow_sub_one_eq_mod, BitVec.toNat_ofInt]
  rfl
theorem andI1 (a : Int) : bits .and .i64 a 1 = a % 2 := by
  have := andI 1 (by omega) a
  rw [show ((2 ^ 1 - 1 : Nat) : Int) = 1 from rfl] at this
  rw [this, IntKind.wrap_i64]
  omega
theorem andI63 (a : Int) : bits .and .i64 a 63 = a % 64 := by
  have := andI 6 (by omega) a
  rw [show ((2 ^ 6 - 1 : Nat) : Int) = 63 from rfl] at this
  rw [this, IntKind.wrap_i64]
  omega
end Go.Mine
namespace Go.Proofs.Ytboipjdgccbjmaa
open Go.RowKit Go.Mine

set_option maxRecDepth 100000 in
theorem pCheck_any (w : World) (t y : Int) (A : Option Addr) (n c : Nat) :
    Calls Try.prog 17 #[.agg #[.int .i64 t, .int .i64 y, .slice A n c]] w fun e w' => e = .returned (.int .i64 (checkOf t y n)) ∧ OnlyIn [] w w' := by
  by_cases h1 : t < 0
  · rw [checkOf, if_neg (by unfold HeadOk; omega)]
    go_enter Try.func17, Try.ntmps17
    go_wp2
    go_ret
    exact ⟨rfl, (OnlyIn.refl _ _).alloc _⟩
  by_cases h2 : 31 < t
  · rw [checkOf, if_neg (by unfold HeadOk; omega)]
    go_enter Try.func17, Try.ntmps17
    go_wp2
    go_ret
    exact ⟨rfl, (OnlyIn.refl _ _).alloc _⟩
  by_cases h3 : y < 0
  · rw [checkOf, if_neg (by unfold HeadOk; omega)]
    go_enter Try.func17, Try.ntmps17
    go_wp2
    go_ret
    exact ⟨rfl, (OnlyIn.refl _ _).alloc _⟩
  by_cases h4 : 63 < y
  · rw [checkOf, if_neg (by unfold HeadOk; omega)]
    go_enter Try.func17, Try.ntmps17
    go_wp2
    go_ret
    exact ⟨rfl, (OnlyIn.refl _ _).alloc _⟩
  by_cases h5 : (32 : Int) < (n : Int)
  · rw [checkOf, if_neg (by unfold HeadOk; omega)]
    go_enter Try.func17, Try.ntmps17
    go_wp2
    go_ret
    exact ⟨rfl, (OnlyIn.refl _ _).alloc _⟩
  rw [checkOf, if_pos (by unfold HeadOk; omega)]
  go_enter Try.func17, Try.ntmps17
  go_wp2
  go_ret
  exact ⟨rfl, (OnlyIn.refl _ _).alloc _⟩
set_option maxRecDepth 100000 in
theorem rCheck_any (w : World) (t y : Int) (A : Option Addr) (n c : Nat) :
    Calls Try.prog 18 #[.agg #[.int .i64 t, .int .i64 y, .slice A n c]] w fun e w' => e = .returned (.int .i64 (checkOf t y n)) ∧ OnlyIn [] w w' := by
  by_cases h1 : t < 0
  · rw [checkOf, if_neg (by unfold HeadOk; omega)]
    go_enter Try.func18, Try.ntmps18
    go_wp2
    go_ret
    exact ⟨rfl, (OnlyIn.refl _ _).alloc _⟩
  by_cases h2 : 31 < t
  · rw [checkOf, if_neg (by unfold HeadOk; omega)]
    go_enter Try.func18, Try.ntmps18
    go_wp2
    go_ret
    exact ⟨rfl, (OnlyIn.refl _ _).alloc _⟩
  by_cases h3 : y < 0
  · rw [checkOf, if_neg (by unfold HeadOk; omega)]
    go_enter Try.func18, Try.ntmps18
    go_wp2
    go_ret
    exact ⟨rfl, (OnlyIn.refl _ _).alloc _⟩
  by_cases h4 : 63 < y
  · rw [checkOf, if_neg (by unfold HeadOk; omega)]
    go_enter Try.func18, Try.ntmps18
    go_wp2
    go_ret
    exact ⟨rfl, (OnlyIn.refl _ _).alloc _⟩
  by_cases h5 : (32 : Int) < (n : Int)
  · rw [checkOf, if_neg (by unfold HeadOk; omega)]
    go_enter Try.func18, Try.ntmps18
    go_wp2
    go_ret
    exact ⟨rfl, (OnlyIn.refl _ _).alloc _⟩
  rw [checkOf, if_pos (by unfold HeadOk; omega)]
  go_enter Try.func18, Try.ntmps18
  go_wp2
  go_ret
  exact ⟨rfl, (OnlyIn.refl _ _).alloc _⟩
set_option maxRecDepth 100000 in
theorem pFormat_any (w : World) (t y : Int) (v : Value) :
    Calls Try.prog 19 #[.agg #[.int .i64 t, .int .i64 y, v]] w fun e w' => e = .returned (.int .i64 (formatOf y)) ∧ OnlyIn [] w w' := by
  have h1 := andI1 (y / 4)
  go_enter Try.func19, Try.ntmps19
  go_wp2
  go_ret
  exact ⟨rfl, (OnlyIn.refl _ _).alloc _⟩
set_option maxRecDepth 100000 in
theorem rFormat_any (w : World) (t y : Int) (v : Value) :
    Calls Try.prog 20 #[.agg #[.int .i64 t, .int .i64 y, v]] w fun e w' => e = .returned (.int .i64 (formatOf y)) ∧ OnlyIn [] w w' := by
  have h1 := andI63 y
  have h2 : (y % 64).tdiv 4 = y % 64 / 4 := Int.tdiv_eq_ediv_of_nonneg (by omega)
  have h3 : wrap64 (y % 64 / 4) = y % 64 / 4 := by unfold wrap64; omega
  have h4 : (y % 64 / 4).tmod 2 = formatOf y := by rw [Int.tmod_eq_emod_of_nonneg (by omega), formatOf]; omega
  go_enter Try.func20, Try.ntmps20
  go_wp2
  go_ret
  exact ⟨rfl, (OnlyIn.refl _ _).alloc _⟩
end Go.Proofs.Ytboipjdgccbjmaa
