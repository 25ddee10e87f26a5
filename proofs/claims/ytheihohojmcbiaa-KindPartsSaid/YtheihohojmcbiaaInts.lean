/-
  The cells of numbers and of texts. Nothing here names a program.
-/
import Derived.Test.YtheihohojmcbiaaBitsSpec
namespace Go.Mine
open Go.RowKit
/-- The cells of a list of numbers. -/
def intCells (l : List Int) : List Value := l.map fun x => Value.int .i64 x
theorem intCells_append (a b : List Int) : intCells (a ++ b) = intCells a ++ intCells b := by simp [intCells]
theorem intCells_get {l : List Int} {i : Nat} (h : i < l.length) : (intCells l)[i]? = some (.int .i64 (l[i]'h)) := by simp [intCells, List.getElem?_eq_getElem h]
theorem intCells_length (l : List Int) : (intCells l).length = l.length := by simp [intCells]
theorem intCells_one (l : List Int) : ∀ u ∈ intCells l, u.oneCell' = true := by
  intro u hu
  obtain ⟨x, -, rfl⟩ := List.mem_map.1 hu
  rfl
end Go.Mine
