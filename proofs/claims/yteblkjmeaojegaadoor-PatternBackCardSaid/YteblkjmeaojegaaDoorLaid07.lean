/-
  The package variables that the rows of law 07 list: what they give a walk, and a world that holds them.
-/
import Derived.Test.YteblkjmeaojegaaDoorPatFields
import Derived.Test.YteblkjmeaojegaaDoorRows
import Derived.Lib.LaidU8
import Derived.Lib.LaidTab
import Derived.Deep.DeepLaidRun
import Derived.Deep.DeepHandedRow
import Derived.Deep.DeepWitnessRowRef
import Derived.Lib.Space
namespace Go.Proofs.YteblkjmeaojegaaDoor
open Go.ChangeShapes Go.WideShapes Go.ChangeAt Go.RowKit Go.Mine

theorem laid_own : ownKnob Tryd.prog.godebug = none := by kernel_rfl
theorem laid_out : laidOutB Tryd.prog = true := by kernel_rfl
theorem laid_g : Tryd.prog.globalNamed "strings.asciiSpace" = some 0 := by kernel_rfl
theorem laid_gt : (Tryd.prog.globals[0]?).map (·.type) = some 83 := by kernel_rfl
theorem laid_c256 : Tryd.prog.cellsOf 83 = 256 := by kernel_rfl
theorem laid_c1 : Tryd.prog.cellsOf 5 = 1 := by kernel_rfl
theorem laid_space : (Rows.laid_strings_asciiSpace : DataW Unit) = Lib.tabData .u8 Lib.asciiSpaceTab := by kernel_rfl

/-- The table is laid. -/
theorem spaced_of {W : World} (hL : laidMet Tryd.prog Rows.patternReadsRow.laid W) : Spaced W := by
  obtain ⟨g', t', cs, fuel, p, hg', ht', hvar, hd⟩ := Lib.laidMet.reads hL (n := "strings.asciiSpace") (d := Rows.laid_strings_asciiSpace) (.tail _ (.tail _ (.head _)))
  obtain rfl := Option.some.inj (laid_g.symm.trans hg')
  obtain rfl := Option.some.inj (laid_gt.symm.trans ht')
  rw [laid_space] at hd
  have ht : Lib.TabIs Tryd.prog W "strings.asciiSpace" .u8 Lib.asciiSpaceTab := by
    unfold Lib.TabIs
    rw [hvar, ← Lib.cells_of_tab Tryd.underlying83 Tryd.underlying5 laid_c1 laid_c256 hd]
  intro i hi
  exact ht.cell laid_g i (by rw [Lib.asciiSpaceTab_length]; exact hi)

/-- A world that holds what the row lists. -/
noncomputable def laidWorld (os : Os) : World :=
  let N := (World.settled Tryd.prog os).heap.size
  let w0 := World.holding Tryd.prog os ⟨#[.cells (Lib.whiteT.map fun (z : Nat) => Value.int .u16 (z : Int)).toArray 103, .cells #[.slice (some ⟨N, 0, none⟩) 7 7, .slice none 0 0, .int .i64 2] 100], #[], []⟩
  let put (h : Array Obj) (g : Nat) (cs : Array Value) : Array Obj := h.modify g fun
    | .cells _ t frozen => .cells cs t frozen
    | o => o
  { w0 with heap := put (put (put (put w0.heap 0 (Lib.asciiSpaceTab.map fun z => Value.int .u8 z).toArray) 2 (Lib.firstTab.map fun z => Value.int .u8 z).toArray)
      3 ((List.range 16).flatMap fun i => [Value.int .u8 (Lib.accLo i), Value.int .u8 (Lib.accHi i)]).toArray) 1 #[.pointer (some ⟨N + 1, 0, none⟩)] }
theorem laid_met (os : Os) (args : Array Value) : laidMet Tryd.prog Rows.patternReadsRow.laid ((laidWorld os).forCall (fun _ _ => 0) ⟨#[], args, []⟩).memory :=
  laidMet_of_run3 10 (by kernel_rfl) (by kernel_rfl) (by kernel_rfl)
end Go.Proofs.YteblkjmeaojegaaDoor
