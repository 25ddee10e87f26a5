/-
  Package praxinoscopekit: CopyInts, SameInts, OverInts.
-/
import Derived.Test.YtheihohojmcbiaaTxts
namespace Go.Proofs.Ytheihohojmcbiaa
open Go.RowKit Go.Mine

set_option maxRecDepth 100000 in
theorem Try.infoIC : (Try.prog.info? 3).map (fun i => (i.zero, i.size, i.bytes)) = some (some (.int .i64 0), 1, 8) := by kernel_rfl

end Go.Proofs.Ytheihohojmcbiaa
