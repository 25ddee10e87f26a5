/-
  Package praxinoscopekit: CopyInts, SameInts, OverInts.
-/
import Derived.Test.YteblkjmeaojegaaDoorTxts
namespace Go.Proofs.YteblkjmeaojegaaDoor
open Go.RowKit Go.Mine

set_option maxRecDepth 100000 in
theorem Tryd.infoIC : (Tryd.prog.info? 3).map (fun i => (i.zero, i.size, i.bytes)) = some (some (.int .i64 0), 1, 8) := by kernel_rfl

end Go.Proofs.YteblkjmeaojegaaDoor
