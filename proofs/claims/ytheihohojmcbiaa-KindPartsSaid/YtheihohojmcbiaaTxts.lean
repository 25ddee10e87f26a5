/-
  The cells of texts. Nothing here names a program.
-/
import Derived.Test.YtheihohojmcbiaaKitBytes
import Derived.Test.YtheihohojmcbiaaInts
namespace Go.Mine
open Go.RowKit
/-- The cells of a list of texts. -/
def txtCells (l : List (List UInt8)) : List Value := l.map fun s => Value.string (str s)
theorem txtCells_append (a b : List (List UInt8)) : txtCells (a ++ b) = txtCells a ++ txtCells b := by simp [txtCells]
theorem txtCells_get {l : List (List UInt8)} {i : Nat} (h : i < l.length) : (txtCells l)[i]? = some (.string (str (l[i]'h))) := by simp [txtCells, List.getElem?_eq_getElem h]
theorem txtCells_length (l : List (List UInt8)) : (txtCells l).length = l.length := by simp [txtCells]
theorem txtCells_one (l : List (List UInt8)) : ∀ u ∈ txtCells l, u.oneCell' = true := by
  intro u hu
  obtain ⟨x, -, rfl⟩ := List.mem_map.1 hu
  rfl
theorem str_add (a b : List UInt8) : str a ++ str b = str (a ++ b) := ByteArray.mk_append_mk a b
theorem run_add_txt {P : Program} (w : World) (a b : List UInt8) (h : a.length + b.length ≤ 1000000000) : (Op.stringOp .add (str a) (str b)).run P w = .ok (.string (str (a ++ b))) w := by
  rw [run_string_add_sum w _ _ (by rw [str_size, str_size]; omega), str_add]
end Go.Mine
