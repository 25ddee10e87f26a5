/-
  No cell of these rows narrows 'for every input' (looked for: loops, veiled, ifaces, maps, wideKeys, modest, calm, conditions, laid).
  DERIVED. THE GIVEN ROWS OF THIS SEAT. 10 by the template 'for every input the law returns true; each argument reads behind the call as it read before'; 0 by the template 'total and deterministic' (their statements: YtmbnmhcfafgnaaaTotals.lean).
  GIVEN WITH THE SEED: the statements are not yours to turn. If you find one false, say at which input.
  Laid BY PROGRAM, IN A SANDBOX (cutbox-rows.mjs): the forced cells as the released guide's own fill.sh prints them over the translation f8d45729863203cd… (all of the seat's roots in one cut). By AI agents, Wed Nov 11 2026. No macro, syntax, notation, axiom, sorry.
-/
import Derived.Test.YtmbnmhcfafgnaaaChecked
import GoSem.Claim
import GoSem.ClaimJoined
import GoSem.ClaimMapViews
import Derived.JoinedTies
import Derived.KernelRfl
namespace Go.Proofs.Ytmbnmhcfafgnaaa
/- THE CELL 'sum', in the pinned program and in every row, IS THE sha256 OF THE DUMP (.gsa) THAT YtmbnmhcfafgnaaaProg.lean LOADS. Nothing in Lean hashes anything: it is a label: what it is worth is what the hold of that sum in a sandbox is worth. -/
noncomputable def Try.pinned : Pinned := { name := "ytmbnmhcfafgnaaa", sum := "f8d45729863203cd96e51c8b682f622a8984565540ddd84446d98e2b6acfdc94", checked := Try.checked }
namespace Rows
def none {H : Type} : Left H := { results := [], args := [] }

/-- 'praxinoscopelaw28.PressTells': WHATEVER THE INPUT: true; the input reads as it did. -/
def pressTellsSpec : ChangeSpec := { name := "pressTells", fn := fun _ => fun
  | [d1, d2, d3] => { results := [.lit (.bool true)], args := [d1, d2, d3] }
  | _ => none }
def pressTellsRow : OpenClaim := { program := "ytmbnmhcfafgnaaa", sum := "f8d45729863203cd96e51c8b682f622a8984565540ddd84446d98e2b6acfdc94", func := "praxinoscope/praxinoscopelaw28.PressTells", spec := "pressTells", unfollowed := true, recurses := true, apart := false }
def PressTellsSaid : Prop := pressTellsRow.holds Try.pinned (OpenSpec.ofChange pressTellsSpec)

/-- ITS FALSE NEIGHBOUR: 'it returns false'. Refute it at one input. -/
def pressTellsWrong : ChangeSpec := { name := "pressTells", fn := fun _ => fun
  | [d1, d2, d3] => { results := [.lit (.bool false)], args := [d1, d2, d3] }
  | _ => none }
def PressTellsWrongFalsely : Prop := pressTellsRow.holds Try.pinned (OpenSpec.ofChange pressTellsWrong)

/-- 'praxinoscopelaw28.PressKnown': WHATEVER THE INPUT: true; the input reads as it did. -/
def pressKnownSpec : ChangeSpec := { name := "pressKnown", fn := fun _ => fun
  | [] => { results := [.lit (.bool true)], args := [] }
  | _ => none }
def pressKnownRow : OpenClaim := { program := "ytmbnmhcfafgnaaa", sum := "f8d45729863203cd96e51c8b682f622a8984565540ddd84446d98e2b6acfdc94", func := "praxinoscope/praxinoscopelaw28.PressKnown", spec := "pressKnown", unfollowed := true, recurses := true, apart := false }
def PressKnownSaid : Prop := pressKnownRow.holds Try.pinned (OpenSpec.ofChange pressKnownSpec)

/-- ITS FALSE NEIGHBOUR: 'it returns false'. Refute it at one input. -/
def pressKnownWrong : ChangeSpec := { name := "pressKnown", fn := fun _ => fun
  | [] => { results := [.lit (.bool false)], args := [] }
  | _ => none }
def PressKnownWrongFalsely : Prop := pressKnownRow.holds Try.pinned (OpenSpec.ofChange pressKnownWrong)

/-- 'praxinoscopelaw28.PressTurned': WHATEVER THE INPUT: true; the input reads as it did. -/
def pressTurnedSpec : ChangeSpec := { name := "pressTurned", fn := fun _ => fun
  | [d1, d2, d3, d4] => { results := [.lit (.bool true)], args := [d1, d2, d3, d4] }
  | _ => none }
def pressTurnedRow : OpenClaim := { program := "ytmbnmhcfafgnaaa", sum := "f8d45729863203cd96e51c8b682f622a8984565540ddd84446d98e2b6acfdc94", func := "praxinoscope/praxinoscopelaw28.PressTurned", spec := "pressTurned", unfollowed := true, recurses := true, apart := false }
def PressTurnedSaid : Prop := pressTurnedRow.holds Try.pinned (OpenSpec.ofChange pressTurnedSpec)

/-- ITS FALSE NEIGHBOUR: 'it returns false'. Refute it at one input. -/
def pressTurnedWrong : ChangeSpec := { name := "pressTurned", fn := fun _ => fun
  | [d1, d2, d3, d4] => { results := [.lit (.bool false)], args := [d1, d2, d3, d4] }
  | _ => none }
def PressTurnedWrongFalsely : Prop := pressTurnedRow.holds Try.pinned (OpenSpec.ofChange pressTurnedWrong)

/-- 'praxinoscopelaw28.PressOrder': WHATEVER THE INPUT: true; the input reads as it did. -/
def pressOrderSpec : ChangeSpec := { name := "pressOrder", fn := fun _ => fun
  | [d1, d2, d3] => { results := [.lit (.bool true)], args := [d1, d2, d3] }
  | _ => none }
def pressOrderRow : OpenClaim := { program := "ytmbnmhcfafgnaaa", sum := "f8d45729863203cd96e51c8b682f622a8984565540ddd84446d98e2b6acfdc94", func := "praxinoscope/praxinoscopelaw28.PressOrder", spec := "pressOrder", unfollowed := true, recurses := true, apart := false }
def PressOrderSaid : Prop := pressOrderRow.holds Try.pinned (OpenSpec.ofChange pressOrderSpec)

/-- ITS FALSE NEIGHBOUR: 'it returns false'. Refute it at one input. -/
def pressOrderWrong : ChangeSpec := { name := "pressOrder", fn := fun _ => fun
  | [d1, d2, d3] => { results := [.lit (.bool false)], args := [d1, d2, d3] }
  | _ => none }
def PressOrderWrongFalsely : Prop := pressOrderRow.holds Try.pinned (OpenSpec.ofChange pressOrderWrong)

/-- 'praxinoscopelaw28.PressEnough': WHATEVER THE INPUT: true; the input reads as it did. -/
def pressEnoughSpec : ChangeSpec := { name := "pressEnough", fn := fun _ => fun
  | [d1, d2, d3] => { results := [.lit (.bool true)], args := [d1, d2, d3] }
  | _ => none }
def pressEnoughRow : OpenClaim := { program := "ytmbnmhcfafgnaaa", sum := "f8d45729863203cd96e51c8b682f622a8984565540ddd84446d98e2b6acfdc94", func := "praxinoscope/praxinoscopelaw28.PressEnough", spec := "pressEnough", unfollowed := true, recurses := true, apart := false }
def PressEnoughSaid : Prop := pressEnoughRow.holds Try.pinned (OpenSpec.ofChange pressEnoughSpec)

/-- ITS FALSE NEIGHBOUR: 'it returns false'. Refute it at one input. -/
def pressEnoughWrong : ChangeSpec := { name := "pressEnough", fn := fun _ => fun
  | [d1, d2, d3] => { results := [.lit (.bool false)], args := [d1, d2, d3] }
  | _ => none }
def PressEnoughWrongFalsely : Prop := pressEnoughRow.holds Try.pinned (OpenSpec.ofChange pressEnoughWrong)

/-- 'praxinoscopelaw23.PoolKnown': WHATEVER THE INPUT: true; the input reads as it did. -/
def poolKnownSpec : ChangeSpec := { name := "poolKnown", fn := fun _ => fun
  | [] => { results := [.lit (.bool true)], args := [] }
  | _ => none }
def poolKnownRow : OpenClaim := { program := "ytmbnmhcfafgnaaa", sum := "f8d45729863203cd96e51c8b682f622a8984565540ddd84446d98e2b6acfdc94", func := "praxinoscope/praxinoscopelaw23.PoolKnown", spec := "poolKnown", unfollowed := true, recurses := true, apart := false }
def PoolKnownSaid : Prop := poolKnownRow.holds Try.pinned (OpenSpec.ofChange poolKnownSpec)

/-- ITS FALSE NEIGHBOUR: 'it returns false'. Refute it at one input. -/
def poolKnownWrong : ChangeSpec := { name := "poolKnown", fn := fun _ => fun
  | [] => { results := [.lit (.bool false)], args := [] }
  | _ => none }
def PoolKnownWrongFalsely : Prop := poolKnownRow.holds Try.pinned (OpenSpec.ofChange poolKnownWrong)

/-- 'praxinoscopelaw23.PoolCounts': WHATEVER THE INPUT: true; the input reads as it did. -/
def poolCountsSpec : ChangeSpec := { name := "poolCounts", fn := fun _ => fun
  | [d1, d2, d3] => { results := [.lit (.bool true)], args := [d1, d2, d3] }
  | _ => none }
def poolCountsRow : OpenClaim := { program := "ytmbnmhcfafgnaaa", sum := "f8d45729863203cd96e51c8b682f622a8984565540ddd84446d98e2b6acfdc94", func := "praxinoscope/praxinoscopelaw23.PoolCounts", spec := "poolCounts", unfollowed := true, recurses := true, apart := false }
def PoolCountsSaid : Prop := poolCountsRow.holds Try.pinned (OpenSpec.ofChange poolCountsSpec)

/-- ITS FALSE NEIGHBOUR: 'it returns false'. Refute it at one input. -/
def poolCountsWrong : ChangeSpec := { name := "poolCounts", fn := fun _ => fun
  | [d1, d2, d3] => { results := [.lit (.bool false)], args := [d1, d2, d3] }
  | _ => none }
def PoolCountsWrongFalsely : Prop := poolCountsRow.holds Try.pinned (OpenSpec.ofChange poolCountsWrong)

/-- 'praxinoscopelaw23.PoolActs': WHATEVER THE INPUT: true; the input reads as it did. -/
def poolActsSpec : ChangeSpec := { name := "poolActs", fn := fun _ => fun
  | [d1, d2, d3] => { results := [.lit (.bool true)], args := [d1, d2, d3] }
  | _ => none }
def poolActsRow : OpenClaim := { program := "ytmbnmhcfafgnaaa", sum := "f8d45729863203cd96e51c8b682f622a8984565540ddd84446d98e2b6acfdc94", func := "praxinoscope/praxinoscopelaw23.PoolActs", spec := "poolActs", unfollowed := true, recurses := true, apart := false }
def PoolActsSaid : Prop := poolActsRow.holds Try.pinned (OpenSpec.ofChange poolActsSpec)

/-- ITS FALSE NEIGHBOUR: 'it returns false'. Refute it at one input. -/
def poolActsWrong : ChangeSpec := { name := "poolActs", fn := fun _ => fun
  | [d1, d2, d3] => { results := [.lit (.bool false)], args := [d1, d2, d3] }
  | _ => none }
def PoolActsWrongFalsely : Prop := poolActsRow.holds Try.pinned (OpenSpec.ofChange poolActsWrong)

/-- 'praxinoscopelaw23.PoolNone': WHATEVER THE INPUT: true; the input reads as it did. -/
def poolNoneSpec : ChangeSpec := { name := "poolNone", fn := fun _ => fun
  | [d] => { results := [.lit (.bool true)], args := [d] }
  | _ => none }
def poolNoneRow : OpenClaim := { program := "ytmbnmhcfafgnaaa", sum := "f8d45729863203cd96e51c8b682f622a8984565540ddd84446d98e2b6acfdc94", func := "praxinoscope/praxinoscopelaw23.PoolNone", spec := "poolNone", unfollowed := true, recurses := true, apart := false }
def PoolNoneSaid : Prop := poolNoneRow.holds Try.pinned (OpenSpec.ofChange poolNoneSpec)

/-- ITS FALSE NEIGHBOUR: 'it returns false'. Refute it at one input. -/
def poolNoneWrong : ChangeSpec := { name := "poolNone", fn := fun _ => fun
  | [d] => { results := [.lit (.bool false)], args := [d] }
  | _ => none }
def PoolNoneWrongFalsely : Prop := poolNoneRow.holds Try.pinned (OpenSpec.ofChange poolNoneWrong)

/-- 'praxinoscopelaw23.PoolOwn': WHATEVER THE INPUT: true; the input reads as it did. -/
def poolOwnSpec : ChangeSpec := { name := "poolOwn", fn := fun _ => fun
  | [d1, d2, d3] => { results := [.lit (.bool true)], args := [d1, d2, d3] }
  | _ => none }
def poolOwnRow : OpenClaim := { program := "ytmbnmhcfafgnaaa", sum := "f8d45729863203cd96e51c8b682f622a8984565540ddd84446d98e2b6acfdc94", func := "praxinoscope/praxinoscopelaw23.PoolOwn", spec := "poolOwn", unfollowed := true, recurses := true, apart := false }
def PoolOwnSaid : Prop := poolOwnRow.holds Try.pinned (OpenSpec.ofChange poolOwnSpec)

/-- ITS FALSE NEIGHBOUR: 'it returns false'. Refute it at one input. -/
def poolOwnWrong : ChangeSpec := { name := "poolOwn", fn := fun _ => fun
  | [d1, d2, d3] => { results := [.lit (.bool false)], args := [d1, d2, d3] }
  | _ => none }
def PoolOwnWrongFalsely : Prop := poolOwnRow.holds Try.pinned (OpenSpec.ofChange poolOwnWrong)

/- THE SECOND FORM. 'bulk': how many values and letters a reading holds, each counted each time it is reached (what is shared counts as often as it is met; a slice's spare places count too). A statement '..UptoSaid' is the law's where the arguments, and the package variables that the reading takes, are together of bulk at most 1048576: NARROWER than '..Said'. Prove '..Said' where nothing that the law and all that it calls make is longer than what came in: it says more and counts as full. Else prove '..UptoSaid'. A law counts once. -/
mutual
def uptoBulk {H : Type} : DataW H → Nat
  | .lit (.string bytes) => bytes.length + 1
  | .lit _ => 1
  | .nil => 1
  | .ptr d => uptoBulk d + 1
  | .slice elems spare => uptoBulkAll elems + uptoBulkAll spare + 1
  | .agg parts => uptoBulkAll parts + 1
  | .iface _ d => uptoBulk d + 1
  | .map entries => uptoBulkEntries entries + 1
  | .held _ => 1
def uptoBulkAll {H : Type} : List (DataW H) → Nat
  | [] => 0
  | d :: r => uptoBulk d + uptoBulkAll r
def uptoBulkEntries {H : Type} : List (Lit × DataW H) → Nat
  | [] => 0
  | x :: r => uptoBulkEntry x + uptoBulkEntries r
def uptoBulkEntry {H : Type} : Lit × DataW H → Nat
  | (.string bytes, d) => bytes.length + uptoBulk d + 1
  | (_, d) => uptoBulk d + 1
 end
def uptoSmall : (H : Type) → List (DataW H) → Bool := fun _ ds => decide (uptoBulkAll ds ≤ 1048576)
def OpenSpec.upto (s : _root_.Go.ChangeSpec) : _root_.Go.OpenSpec := { _root_.Go.OpenSpec.ofChange s with cond := some uptoSmall }

/-- 'praxinoscopelaw28.PressTells', WHERE WHAT IT READS IS OF BULK AT MOST 1048576: true; the input reads as it did. -/
def pressTellsUptoRow : OpenClaim := { program := "ytmbnmhcfafgnaaa", sum := "f8d45729863203cd96e51c8b682f622a8984565540ddd84446d98e2b6acfdc94", func := "praxinoscope/praxinoscopelaw28.PressTells", spec := "pressTells", unfollowed := true, recurses := true, apart := false, narrowed := true }
def PressTellsUptoSaid : Prop := pressTellsUptoRow.holds Try.pinned (OpenSpec.upto pressTellsSpec)

/-- 'praxinoscopelaw28.PressKnown', WHERE WHAT IT READS IS OF BULK AT MOST 1048576: true; the input reads as it did. -/
def pressKnownUptoRow : OpenClaim := { program := "ytmbnmhcfafgnaaa", sum := "f8d45729863203cd96e51c8b682f622a8984565540ddd84446d98e2b6acfdc94", func := "praxinoscope/praxinoscopelaw28.PressKnown", spec := "pressKnown", unfollowed := true, recurses := true, apart := false, narrowed := true }
def PressKnownUptoSaid : Prop := pressKnownUptoRow.holds Try.pinned (OpenSpec.upto pressKnownSpec)

/-- 'praxinoscopelaw28.PressTurned', WHERE WHAT IT READS IS OF BULK AT MOST 1048576: true; the input reads as it did. -/
def pressTurnedUptoRow : OpenClaim := { program := "ytmbnmhcfafgnaaa", sum := "f8d45729863203cd96e51c8b682f622a8984565540ddd84446d98e2b6acfdc94", func := "praxinoscope/praxinoscopelaw28.PressTurned", spec := "pressTurned", unfollowed := true, recurses := true, apart := false, narrowed := true }
def PressTurnedUptoSaid : Prop := pressTurnedUptoRow.holds Try.pinned (OpenSpec.upto pressTurnedSpec)

/-- 'praxinoscopelaw28.PressOrder', WHERE WHAT IT READS IS OF BULK AT MOST 1048576: true; the input reads as it did. -/
def pressOrderUptoRow : OpenClaim := { program := "ytmbnmhcfafgnaaa", sum := "f8d45729863203cd96e51c8b682f622a8984565540ddd84446d98e2b6acfdc94", func := "praxinoscope/praxinoscopelaw28.PressOrder", spec := "pressOrder", unfollowed := true, recurses := true, apart := false, narrowed := true }
def PressOrderUptoSaid : Prop := pressOrderUptoRow.holds Try.pinned (OpenSpec.upto pressOrderSpec)

/-- 'praxinoscopelaw28.PressEnough', WHERE WHAT IT READS IS OF BULK AT MOST 1048576: true; the input reads as it did. -/
def pressEnoughUptoRow : OpenClaim := { program := "ytmbnmhcfafgnaaa", sum := "f8d45729863203cd96e51c8b682f622a8984565540ddd84446d98e2b6acfdc94", func := "praxinoscope/praxinoscopelaw28.PressEnough", spec := "pressEnough", unfollowed := true, recurses := true, apart := false, narrowed := true }
def PressEnoughUptoSaid : Prop := pressEnoughUptoRow.holds Try.pinned (OpenSpec.upto pressEnoughSpec)

/-- 'praxinoscopelaw23.PoolKnown', WHERE WHAT IT READS IS OF BULK AT MOST 1048576: true; the input reads as it did. -/
def poolKnownUptoRow : OpenClaim := { program := "ytmbnmhcfafgnaaa", sum := "f8d45729863203cd96e51c8b682f622a8984565540ddd84446d98e2b6acfdc94", func := "praxinoscope/praxinoscopelaw23.PoolKnown", spec := "poolKnown", unfollowed := true, recurses := true, apart := false, narrowed := true }
def PoolKnownUptoSaid : Prop := poolKnownUptoRow.holds Try.pinned (OpenSpec.upto poolKnownSpec)

/-- 'praxinoscopelaw23.PoolCounts', WHERE WHAT IT READS IS OF BULK AT MOST 1048576: true; the input reads as it did. -/
def poolCountsUptoRow : OpenClaim := { program := "ytmbnmhcfafgnaaa", sum := "f8d45729863203cd96e51c8b682f622a8984565540ddd84446d98e2b6acfdc94", func := "praxinoscope/praxinoscopelaw23.PoolCounts", spec := "poolCounts", unfollowed := true, recurses := true, apart := false, narrowed := true }
def PoolCountsUptoSaid : Prop := poolCountsUptoRow.holds Try.pinned (OpenSpec.upto poolCountsSpec)

/-- 'praxinoscopelaw23.PoolActs', WHERE WHAT IT READS IS OF BULK AT MOST 1048576: true; the input reads as it did. -/
def poolActsUptoRow : OpenClaim := { program := "ytmbnmhcfafgnaaa", sum := "f8d45729863203cd96e51c8b682f622a8984565540ddd84446d98e2b6acfdc94", func := "praxinoscope/praxinoscopelaw23.PoolActs", spec := "poolActs", unfollowed := true, recurses := true, apart := false, narrowed := true }
def PoolActsUptoSaid : Prop := poolActsUptoRow.holds Try.pinned (OpenSpec.upto poolActsSpec)

/-- 'praxinoscopelaw23.PoolNone', WHERE WHAT IT READS IS OF BULK AT MOST 1048576: true; the input reads as it did. -/
def poolNoneUptoRow : OpenClaim := { program := "ytmbnmhcfafgnaaa", sum := "f8d45729863203cd96e51c8b682f622a8984565540ddd84446d98e2b6acfdc94", func := "praxinoscope/praxinoscopelaw23.PoolNone", spec := "poolNone", unfollowed := true, recurses := true, apart := false, narrowed := true }
def PoolNoneUptoSaid : Prop := poolNoneUptoRow.holds Try.pinned (OpenSpec.upto poolNoneSpec)

/-- 'praxinoscopelaw23.PoolOwn', WHERE WHAT IT READS IS OF BULK AT MOST 1048576: true; the input reads as it did. -/
def poolOwnUptoRow : OpenClaim := { program := "ytmbnmhcfafgnaaa", sum := "f8d45729863203cd96e51c8b682f622a8984565540ddd84446d98e2b6acfdc94", func := "praxinoscope/praxinoscopelaw23.PoolOwn", spec := "poolOwn", unfollowed := true, recurses := true, apart := false, narrowed := true }
def PoolOwnUptoSaid : Prop := poolOwnUptoRow.holds Try.pinned (OpenSpec.upto poolOwnSpec)

end Rows
end Go.Proofs.Ytmbnmhcfafgnaaa
