/-
  Law 05: KindParts: what a kind's text is.
-/
import Derived.Test.YtheihohojmcbiaaLaw05
namespace Go.Mine
open Go.RowKit
theorem told_out {n : Int} (h : ¬ (1 ≤ n ∧ n ≤ 10)) : told kz n = none := by
  refine told_no fun j hj => ?_
  have hj10 : j < 10 := hj
  rcases (by omega : j = 0 ∨ j = 1 ∨ j = 2 ∨ j = 3 ∨ j = 4 ∨ j = 5 ∨ j = 6 ∨ j = 7 ∨ j = 8 ∨ j = 9) with rfl | rfl | rfl | rfl | rfl | rfl | rfl | rfl | rfl | rfl <;> (simp [kz, kcodes, knums]; omega)
/-- The text of a kind; the empty one of none. -/
def kText (n : Int) : List UInt8 := if 1 ≤ n ∧ n ≤ 10 then kc (n - 1).toNat else []
end Go.Mine
namespace Go.Proofs.Ytheihohojmcbiaa
open Go.RowKit Go.Mine

theorem kText_put (n : Int) : putOf (told kz) n = (str (kText n), kErr n) := by
  by_cases h : 1 ≤ n ∧ n ≤ 10
  · rcases (by omega : n = 1 ∨ n = 2 ∨ n = 3 ∨ n = 4 ∨ n = 5 ∨ n = 6 ∨ n = 7 ∨ n = 8 ∨ n = 9 ∨ n = 10) with rfl | rfl | rfl | rfl | rfl | rfl | rfl | rfl | rfl | rfl <;> rfl
  · unfold putOf kText kErr
    rw [told_out h, if_neg h, if_neg h]
    rfl

end Go.Proofs.Ytheihohojmcbiaa
