/-
  No cell of these rows narrows 'for every input' (looked for: loops, veiled, ifaces, maps, wideKeys, modest, calm, conditions, laid).
  DERIVED. THE GIVEN ROWS OF THIS SEAT. 10 by the template 'for every input the law returns true; each argument reads behind the call as it read before'; 0 by the template 'total and deterministic' (their statements: YtheihohojmcbiaaTotals.lean).
  GIVEN WITH THE SEED: the statements are not yours to turn. If you find one false, say at which input.
  Laid BY PROGRAM, IN A SANDBOX (cutbox-rows.mjs): the forced cells as the released guide's own fill.sh prints them over the translation 06e7d3b360b8d69f… (all of the seat's roots in one cut). By AI agents, Wed Nov 11 2026. No macro, syntax, notation, axiom, sorry.
-/
import Derived.Test.YtheihohojmcbiaaChecked
import GoSem.Claim
import GoSem.ClaimJoined
import GoSem.ClaimMapViews
import Derived.JoinedTies
import Derived.KernelRfl
namespace Go.Proofs.Ytheihohojmcbiaa
/- THE CELL 'sum', in the pinned program and in every row, IS THE sha256 OF THE DUMP (.gsa) THAT YtheihohojmcbiaaProg.lean LOADS. Nothing in Lean hashes anything: it is a label: what it is worth is what the hold of that sum in a sandbox is worth. -/
noncomputable def Try.pinned : Pinned := { name := "ytheihohojmcbiaa", sum := "06e7d3b360b8d69f1ac8aca29c9c614d21b3e915d2eb0a2fd823846d9c6d9a0f", checked := Try.checked }
namespace Rows
def none {H : Type} : Left H := { results := [], args := [] }

/-- 'praxinoscopelaw05.KindReads': WHATEVER THE INPUT: true; the input reads as it did. -/
def kindReadsSpec : ChangeSpec := { name := "kindReads", fn := fun _ => fun
  | [d1, d2] => { results := [.lit (.bool true)], args := [d1, d2] }
  | _ => none }
def kindReadsRow : OpenClaim := { program := "ytheihohojmcbiaa", sum := "06e7d3b360b8d69f1ac8aca29c9c614d21b3e915d2eb0a2fd823846d9c6d9a0f", func := "praxinoscope/praxinoscopelaw05.KindReads", spec := "kindReads", unfollowed := true, recurses := true, apart := false }
def KindReadsSaid : Prop := kindReadsRow.holds Try.pinned (OpenSpec.ofChange kindReadsSpec)

/-- ITS FALSE NEIGHBOUR: 'it returns false'. Refute it at one input. -/
def kindReadsWrong : ChangeSpec := { name := "kindReads", fn := fun _ => fun
  | [d1, d2] => { results := [.lit (.bool false)], args := [d1, d2] }
  | _ => none }
def KindReadsWrongFalsely : Prop := kindReadsRow.holds Try.pinned (OpenSpec.ofChange kindReadsWrong)

/-- 'praxinoscopelaw05.KindTells': WHATEVER THE INPUT: true; the input reads as it did. -/
def kindTellsSpec : ChangeSpec := { name := "kindTells", fn := fun _ => fun
  | [d] => { results := [.lit (.bool true)], args := [d] }
  | _ => none }
def kindTellsRow : OpenClaim := { program := "ytheihohojmcbiaa", sum := "06e7d3b360b8d69f1ac8aca29c9c614d21b3e915d2eb0a2fd823846d9c6d9a0f", func := "praxinoscope/praxinoscopelaw05.KindTells", spec := "kindTells", unfollowed := true, recurses := true, apart := false }
def KindTellsSaid : Prop := kindTellsRow.holds Try.pinned (OpenSpec.ofChange kindTellsSpec)

/-- ITS FALSE NEIGHBOUR: 'it returns false'. Refute it at one input. -/
def kindTellsWrong : ChangeSpec := { name := "kindTells", fn := fun _ => fun
  | [d] => { results := [.lit (.bool false)], args := [d] }
  | _ => none }
def KindTellsWrongFalsely : Prop := kindTellsRow.holds Try.pinned (OpenSpec.ofChange kindTellsWrong)

/-- 'praxinoscopelaw05.KindKnown': WHATEVER THE INPUT: true; the input reads as it did. -/
def kindKnownSpec : ChangeSpec := { name := "kindKnown", fn := fun _ => fun
  | [] => { results := [.lit (.bool true)], args := [] }
  | _ => none }
def kindKnownRow : OpenClaim := { program := "ytheihohojmcbiaa", sum := "06e7d3b360b8d69f1ac8aca29c9c614d21b3e915d2eb0a2fd823846d9c6d9a0f", func := "praxinoscope/praxinoscopelaw05.KindKnown", spec := "kindKnown", unfollowed := true, recurses := true, apart := false }
def KindKnownSaid : Prop := kindKnownRow.holds Try.pinned (OpenSpec.ofChange kindKnownSpec)

/-- ITS FALSE NEIGHBOUR: 'it returns false'. Refute it at one input. -/
def kindKnownWrong : ChangeSpec := { name := "kindKnown", fn := fun _ => fun
  | [] => { results := [.lit (.bool false)], args := [] }
  | _ => none }
def KindKnownWrongFalsely : Prop := kindKnownRow.holds Try.pinned (OpenSpec.ofChange kindKnownWrong)

/-- 'praxinoscopelaw05.KindParts': WHATEVER THE INPUT: true; the input reads as it did. -/
def kindPartsSpec : ChangeSpec := { name := "kindParts", fn := fun _ => fun
  | [d1, d2] => { results := [.lit (.bool true)], args := [d1, d2] }
  | _ => none }
def kindPartsRow : OpenClaim := { program := "ytheihohojmcbiaa", sum := "06e7d3b360b8d69f1ac8aca29c9c614d21b3e915d2eb0a2fd823846d9c6d9a0f", func := "praxinoscope/praxinoscopelaw05.KindParts", spec := "kindParts", unfollowed := true, recurses := true, apart := false }
def KindPartsSaid : Prop := kindPartsRow.holds Try.pinned (OpenSpec.ofChange kindPartsSpec)

/-- ITS FALSE NEIGHBOUR: 'it returns false'. Refute it at one input. -/
def kindPartsWrong : ChangeSpec := { name := "kindParts", fn := fun _ => fun
  | [d1, d2] => { results := [.lit (.bool false)], args := [d1, d2] }
  | _ => none }
def KindPartsWrongFalsely : Prop := kindPartsRow.holds Try.pinned (OpenSpec.ofChange kindPartsWrong)

/-- 'praxinoscopelaw05.KindBack': WHATEVER THE INPUT: true; the input reads as it did. -/
def kindBackSpec : ChangeSpec := { name := "kindBack", fn := fun _ => fun
  | [d1, d2] => { results := [.lit (.bool true)], args := [d1, d2] }
  | _ => none }
def kindBackRow : OpenClaim := { program := "ytheihohojmcbiaa", sum := "06e7d3b360b8d69f1ac8aca29c9c614d21b3e915d2eb0a2fd823846d9c6d9a0f", func := "praxinoscope/praxinoscopelaw05.KindBack", spec := "kindBack", unfollowed := true, recurses := true, apart := false }
def KindBackSaid : Prop := kindBackRow.holds Try.pinned (OpenSpec.ofChange kindBackSpec)

/-- ITS FALSE NEIGHBOUR: 'it returns false'. Refute it at one input. -/
def kindBackWrong : ChangeSpec := { name := "kindBack", fn := fun _ => fun
  | [d1, d2] => { results := [.lit (.bool false)], args := [d1, d2] }
  | _ => none }
def KindBackWrongFalsely : Prop := kindBackRow.holds Try.pinned (OpenSpec.ofChange kindBackWrong)

/-- 'praxinoscopelaw06.VectorGets': WHATEVER THE INPUT: true; the input reads as it did. -/
def vectorGetsSpec : ChangeSpec := { name := "vectorGets", fn := fun _ => fun
  | [d1, d2] => { results := [.lit (.bool true)], args := [d1, d2] }
  | _ => none }
def vectorGetsRow : OpenClaim := { program := "ytheihohojmcbiaa", sum := "06e7d3b360b8d69f1ac8aca29c9c614d21b3e915d2eb0a2fd823846d9c6d9a0f", func := "praxinoscope/praxinoscopelaw06.VectorGets", spec := "vectorGets", unfollowed := true, recurses := true, apart := false }
def VectorGetsSaid : Prop := vectorGetsRow.holds Try.pinned (OpenSpec.ofChange vectorGetsSpec)

/-- ITS FALSE NEIGHBOUR: 'it returns false'. Refute it at one input. -/
def vectorGetsWrong : ChangeSpec := { name := "vectorGets", fn := fun _ => fun
  | [d1, d2] => { results := [.lit (.bool false)], args := [d1, d2] }
  | _ => none }
def VectorGetsWrongFalsely : Prop := vectorGetsRow.holds Try.pinned (OpenSpec.ofChange vectorGetsWrong)

/-- 'praxinoscopelaw06.VectorTurns': WHATEVER THE INPUT: true; the input reads as it did. -/
def vectorTurnsSpec : ChangeSpec := { name := "vectorTurns", fn := fun _ => fun
  | [d1, d2, d3, d4] => { results := [.lit (.bool true)], args := [d1, d2, d3, d4] }
  | _ => none }
def vectorTurnsRow : OpenClaim := { program := "ytheihohojmcbiaa", sum := "06e7d3b360b8d69f1ac8aca29c9c614d21b3e915d2eb0a2fd823846d9c6d9a0f", func := "praxinoscope/praxinoscopelaw06.VectorTurns", spec := "vectorTurns", unfollowed := true, recurses := true, apart := false }
def VectorTurnsSaid : Prop := vectorTurnsRow.holds Try.pinned (OpenSpec.ofChange vectorTurnsSpec)

/-- ITS FALSE NEIGHBOUR: 'it returns false'. Refute it at one input. -/
def vectorTurnsWrong : ChangeSpec := { name := "vectorTurns", fn := fun _ => fun
  | [d1, d2, d3, d4] => { results := [.lit (.bool false)], args := [d1, d2, d3, d4] }
  | _ => none }
def VectorTurnsWrongFalsely : Prop := vectorTurnsRow.holds Try.pinned (OpenSpec.ofChange vectorTurnsWrong)

/-- 'praxinoscopelaw06.VectorKnown': WHATEVER THE INPUT: true; the input reads as it did. -/
def vectorKnownSpec : ChangeSpec := { name := "vectorKnown", fn := fun _ => fun
  | [] => { results := [.lit (.bool true)], args := [] }
  | _ => none }
def vectorKnownRow : OpenClaim := { program := "ytheihohojmcbiaa", sum := "06e7d3b360b8d69f1ac8aca29c9c614d21b3e915d2eb0a2fd823846d9c6d9a0f", func := "praxinoscope/praxinoscopelaw06.VectorKnown", spec := "vectorKnown", unfollowed := true, recurses := true, apart := false }
def VectorKnownSaid : Prop := vectorKnownRow.holds Try.pinned (OpenSpec.ofChange vectorKnownSpec)

/-- ITS FALSE NEIGHBOUR: 'it returns false'. Refute it at one input. -/
def vectorKnownWrong : ChangeSpec := { name := "vectorKnown", fn := fun _ => fun
  | [] => { results := [.lit (.bool false)], args := [] }
  | _ => none }
def VectorKnownWrongFalsely : Prop := vectorKnownRow.holds Try.pinned (OpenSpec.ofChange vectorKnownWrong)

/-- 'praxinoscopelaw06.VectorBack': WHATEVER THE INPUT: true; the input reads as it did. -/
def vectorBackSpec : ChangeSpec := { name := "vectorBack", fn := fun _ => fun
  | [d1, d2, d3] => { results := [.lit (.bool true)], args := [d1, d2, d3] }
  | _ => none }
def vectorBackRow : OpenClaim := { program := "ytheihohojmcbiaa", sum := "06e7d3b360b8d69f1ac8aca29c9c614d21b3e915d2eb0a2fd823846d9c6d9a0f", func := "praxinoscope/praxinoscopelaw06.VectorBack", spec := "vectorBack", unfollowed := true, recurses := true, apart := false }
def VectorBackSaid : Prop := vectorBackRow.holds Try.pinned (OpenSpec.ofChange vectorBackSpec)

/-- ITS FALSE NEIGHBOUR: 'it returns false'. Refute it at one input. -/
def vectorBackWrong : ChangeSpec := { name := "vectorBack", fn := fun _ => fun
  | [d1, d2, d3] => { results := [.lit (.bool false)], args := [d1, d2, d3] }
  | _ => none }
def VectorBackWrongFalsely : Prop := vectorBackRow.holds Try.pinned (OpenSpec.ofChange vectorBackWrong)

/-- 'praxinoscopelaw06.VectorOne': WHATEVER THE INPUT: true; the input reads as it did. -/
def vectorOneSpec : ChangeSpec := { name := "vectorOne", fn := fun _ => fun
  | [d1, d2] => { results := [.lit (.bool true)], args := [d1, d2] }
  | _ => none }
def vectorOneRow : OpenClaim := { program := "ytheihohojmcbiaa", sum := "06e7d3b360b8d69f1ac8aca29c9c614d21b3e915d2eb0a2fd823846d9c6d9a0f", func := "praxinoscope/praxinoscopelaw06.VectorOne", spec := "vectorOne", unfollowed := true, recurses := true, apart := false }
def VectorOneSaid : Prop := vectorOneRow.holds Try.pinned (OpenSpec.ofChange vectorOneSpec)

/-- ITS FALSE NEIGHBOUR: 'it returns false'. Refute it at one input. -/
def vectorOneWrong : ChangeSpec := { name := "vectorOne", fn := fun _ => fun
  | [d1, d2] => { results := [.lit (.bool false)], args := [d1, d2] }
  | _ => none }
def VectorOneWrongFalsely : Prop := vectorOneRow.holds Try.pinned (OpenSpec.ofChange vectorOneWrong)

/- THE SECOND FORM. 'bulk': how many values and letters a reading holds, each counted each time it is reached (what is shared counts as often as it is met; a slice's spare places count too). A statement '..UptoSaid' is the law's where the arguments, and the package variables that the reading takes, are together of bulk at most 1048576: NARROWER than '..Said'. Prove '..Said' where nothing that the law and all that it calls make is longer than what came in: it says more and counts as full. Else prove '..UptoSaid'. A law counts once. -/
mutual
def uptoBulk {H : Type} : DataW H → Nat
  | .lit (.string bytes) => bytes.length + 1
  | .lit _ => 1
  | .nil => 1
  | .ptr d => uptoBulk d + 1
  | .slice elems spare => uptoBulkAll elems + uptoBulkAll spare + 1
  | .agg parts => uptoBulkAll parts + 1
  | .iface _ d => uptoBulk d + 1
  | .map entries => uptoBulkEntries entries + 1
  | .held _ => 1
def uptoBulkAll {H : Type} : List (DataW H) → Nat
  | [] => 0
  | d :: r => uptoBulk d + uptoBulkAll r
def uptoBulkEntries {H : Type} : List (Lit × DataW H) → Nat
  | [] => 0
  | x :: r => uptoBulkEntry x + uptoBulkEntries r
def uptoBulkEntry {H : Type} : Lit × DataW H → Nat
  | (.string bytes, d) => bytes.length + uptoBulk d + 1
  | (_, d) => uptoBulk d + 1
 end
def uptoSmall : (H : Type) → List (DataW H) → Bool := fun _ ds => decide (uptoBulkAll ds ≤ 1048576)
def OpenSpec.upto (s : _root_.Go.ChangeSpec) : _root_.Go.OpenSpec := { _root_.Go.OpenSpec.ofChange s with cond := some uptoSmall }

/-- 'praxinoscopelaw05.KindReads', WHERE WHAT IT READS IS OF BULK AT MOST 1048576: true; the input reads as it did. -/
def kindReadsUptoRow : OpenClaim := { program := "ytheihohojmcbiaa", sum := "06e7d3b360b8d69f1ac8aca29c9c614d21b3e915d2eb0a2fd823846d9c6d9a0f", func := "praxinoscope/praxinoscopelaw05.KindReads", spec := "kindReads", unfollowed := true, recurses := true, apart := false, narrowed := true }
def KindReadsUptoSaid : Prop := kindReadsUptoRow.holds Try.pinned (OpenSpec.upto kindReadsSpec)

/-- 'praxinoscopelaw05.KindTells', WHERE WHAT IT READS IS OF BULK AT MOST 1048576: true; the input reads as it did. -/
def kindTellsUptoRow : OpenClaim := { program := "ytheihohojmcbiaa", sum := "06e7d3b360b8d69f1ac8aca29c9c614d21b3e915d2eb0a2fd823846d9c6d9a0f", func := "praxinoscope/praxinoscopelaw05.KindTells", spec := "kindTells", unfollowed := true, recurses := true, apart := false, narrowed := true }
def KindTellsUptoSaid : Prop := kindTellsUptoRow.holds Try.pinned (OpenSpec.upto kindTellsSpec)

/-- 'praxinoscopelaw05.KindKnown', WHERE WHAT IT READS IS OF BULK AT MOST 1048576: true; the input reads as it did. -/
def kindKnownUptoRow : OpenClaim := { program := "ytheihohojmcbiaa", sum := "06e7d3b360b8d69f1ac8aca29c9c614d21b3e915d2eb0a2fd823846d9c6d9a0f", func := "praxinoscope/praxinoscopelaw05.KindKnown", spec := "kindKnown", unfollowed := true, recurses := true, apart := false, narrowed := true }
def KindKnownUptoSaid : Prop := kindKnownUptoRow.holds Try.pinned (OpenSpec.upto kindKnownSpec)

/-- 'praxinoscopelaw05.KindParts', WHERE WHAT IT READS IS OF BULK AT MOST 1048576: true; the input reads as it did. -/
def kindPartsUptoRow : OpenClaim := { program := "ytheihohojmcbiaa", sum := "06e7d3b360b8d69f1ac8aca29c9c614d21b3e915d2eb0a2fd823846d9c6d9a0f", func := "praxinoscope/praxinoscopelaw05.KindParts", spec := "kindParts", unfollowed := true, recurses := true, apart := false, narrowed := true }
def KindPartsUptoSaid : Prop := kindPartsUptoRow.holds Try.pinned (OpenSpec.upto kindPartsSpec)

/-- 'praxinoscopelaw05.KindBack', WHERE WHAT IT READS IS OF BULK AT MOST 1048576: true; the input reads as it did. -/
def kindBackUptoRow : OpenClaim := { program := "ytheihohojmcbiaa", sum := "06e7d3b360b8d69f1ac8aca29c9c614d21b3e915d2eb0a2fd823846d9c6d9a0f", func := "praxinoscope/praxinoscopelaw05.KindBack", spec := "kindBack", unfollowed := true, recurses := true, apart := false, narrowed := true }
def KindBackUptoSaid : Prop := kindBackUptoRow.holds Try.pinned (OpenSpec.upto kindBackSpec)

/-- 'praxinoscopelaw06.VectorGets', WHERE WHAT IT READS IS OF BULK AT MOST 1048576: true; the input reads as it did. -/
def vectorGetsUptoRow : OpenClaim := { program := "ytheihohojmcbiaa", sum := "06e7d3b360b8d69f1ac8aca29c9c614d21b3e915d2eb0a2fd823846d9c6d9a0f", func := "praxinoscope/praxinoscopelaw06.VectorGets", spec := "vectorGets", unfollowed := true, recurses := true, apart := false, narrowed := true }
def VectorGetsUptoSaid : Prop := vectorGetsUptoRow.holds Try.pinned (OpenSpec.upto vectorGetsSpec)

/-- 'praxinoscopelaw06.VectorTurns', WHERE WHAT IT READS IS OF BULK AT MOST 1048576: true; the input reads as it did. -/
def vectorTurnsUptoRow : OpenClaim := { program := "ytheihohojmcbiaa", sum := "06e7d3b360b8d69f1ac8aca29c9c614d21b3e915d2eb0a2fd823846d9c6d9a0f", func := "praxinoscope/praxinoscopelaw06.VectorTurns", spec := "vectorTurns", unfollowed := true, recurses := true, apart := false, narrowed := true }
def VectorTurnsUptoSaid : Prop := vectorTurnsUptoRow.holds Try.pinned (OpenSpec.upto vectorTurnsSpec)

/-- 'praxinoscopelaw06.VectorKnown', WHERE WHAT IT READS IS OF BULK AT MOST 1048576: true; the input reads as it did. -/
def vectorKnownUptoRow : OpenClaim := { program := "ytheihohojmcbiaa", sum := "06e7d3b360b8d69f1ac8aca29c9c614d21b3e915d2eb0a2fd823846d9c6d9a0f", func := "praxinoscope/praxinoscopelaw06.VectorKnown", spec := "vectorKnown", unfollowed := true, recurses := true, apart := false, narrowed := true }
def VectorKnownUptoSaid : Prop := vectorKnownUptoRow.holds Try.pinned (OpenSpec.upto vectorKnownSpec)

/-- 'praxinoscopelaw06.VectorBack', WHERE WHAT IT READS IS OF BULK AT MOST 1048576: true; the input reads as it did. -/
def vectorBackUptoRow : OpenClaim := { program := "ytheihohojmcbiaa", sum := "06e7d3b360b8d69f1ac8aca29c9c614d21b3e915d2eb0a2fd823846d9c6d9a0f", func := "praxinoscope/praxinoscopelaw06.VectorBack", spec := "vectorBack", unfollowed := true, recurses := true, apart := false, narrowed := true }
def VectorBackUptoSaid : Prop := vectorBackUptoRow.holds Try.pinned (OpenSpec.upto vectorBackSpec)

/-- 'praxinoscopelaw06.VectorOne', WHERE WHAT IT READS IS OF BULK AT MOST 1048576: true; the input reads as it did. -/
def vectorOneUptoRow : OpenClaim := { program := "ytheihohojmcbiaa", sum := "06e7d3b360b8d69f1ac8aca29c9c614d21b3e915d2eb0a2fd823846d9c6d9a0f", func := "praxinoscope/praxinoscopelaw06.VectorOne", spec := "vectorOne", unfollowed := true, recurses := true, apart := false, narrowed := true }
def VectorOneUptoSaid : Prop := vectorOneUptoRow.holds Try.pinned (OpenSpec.upto vectorOneSpec)

end Rows
end Go.Proofs.Ytheihohojmcbiaa
