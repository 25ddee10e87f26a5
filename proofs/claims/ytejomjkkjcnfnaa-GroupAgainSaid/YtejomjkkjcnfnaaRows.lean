/-
  No cell of these rows narrows 'for every input' (looked for: loops, veiled, ifaces, maps, wideKeys, modest, calm, conditions, laid).
  DERIVED. THE GIVEN ROWS OF THIS SEAT. 12 by the template 'for every input the law returns true; each argument reads behind the call as it read before'; 0 by the template 'total and deterministic' (their statements: YtejomjkkjcnfnaaTotals.lean).
  GIVEN WITH THE SEED: the statements are not yours to turn. If you find one false, say at which input.
  Laid BY PROGRAM, IN A SANDBOX (cutbox-rows.mjs): the forced cells as the released guide's own fill.sh prints them over the translation 03673af41276a72b… (all of the seat's roots in one cut). By AI agents, Wed Nov 11 2026. No macro, syntax, notation, axiom, sorry.
-/
import Derived.Test.YtejomjkkjcnfnaaChecked
import GoSem.Claim
import GoSem.ClaimJoined
import GoSem.ClaimMapViews
import Derived.JoinedTies
import Derived.KernelRfl
namespace Go.Proofs.Ytejomjkkjcnfnaa
/- THE CELL 'sum', in the pinned program and in every row, IS THE sha256 OF THE DUMP (.gsa) THAT YtejomjkkjcnfnaaProg.lean LOADS. Nothing in Lean hashes anything: it is a label: what it is worth is what the hold of that sum in a sandbox is worth. -/
noncomputable def Try.pinned : Pinned := { name := "ytejomjkkjcnfnaa", sum := "03673af41276a72b04dcf9e2a9e125a8b98fa362a2ac51bb1655072a061d1b4c", checked := Try.checked }
namespace Rows
def none {H : Type} : Left H := { results := [], args := [] }

/-- 'praxinoscopelaw01.BitsNone': WHATEVER THE INPUT: true; the input reads as it did. -/
def bitsNoneSpec : ChangeSpec := { name := "bitsNone", fn := fun _ => fun
  | [d] => { results := [.lit (.bool true)], args := [d] }
  | _ => none }
def bitsNoneRow : OpenClaim := { program := "ytejomjkkjcnfnaa", sum := "03673af41276a72b04dcf9e2a9e125a8b98fa362a2ac51bb1655072a061d1b4c", func := "praxinoscope/praxinoscopelaw01.BitsNone", spec := "bitsNone", unfollowed := true, recurses := true, apart := false }
def BitsNoneSaid : Prop := bitsNoneRow.holds Try.pinned (OpenSpec.ofChange bitsNoneSpec)

/-- ITS FALSE NEIGHBOUR: 'it returns false'. Refute it at one input. -/
def bitsNoneWrong : ChangeSpec := { name := "bitsNone", fn := fun _ => fun
  | [d] => { results := [.lit (.bool false)], args := [d] }
  | _ => none }
def BitsNoneWrongFalsely : Prop := bitsNoneRow.holds Try.pinned (OpenSpec.ofChange bitsNoneWrong)

/-- 'praxinoscopelaw01.BitsPens': WHATEVER THE INPUT: true; the input reads as it did. -/
def bitsPensSpec : ChangeSpec := { name := "bitsPens", fn := fun _ => fun
  | [d] => { results := [.lit (.bool true)], args := [d] }
  | _ => none }
def bitsPensRow : OpenClaim := { program := "ytejomjkkjcnfnaa", sum := "03673af41276a72b04dcf9e2a9e125a8b98fa362a2ac51bb1655072a061d1b4c", func := "praxinoscope/praxinoscopelaw01.BitsPens", spec := "bitsPens", unfollowed := true, recurses := true, apart := false }
def BitsPensSaid : Prop := bitsPensRow.holds Try.pinned (OpenSpec.ofChange bitsPensSpec)

/-- ITS FALSE NEIGHBOUR: 'it returns false'. Refute it at one input. -/
def bitsPensWrong : ChangeSpec := { name := "bitsPens", fn := fun _ => fun
  | [d] => { results := [.lit (.bool false)], args := [d] }
  | _ => none }
def BitsPensWrongFalsely : Prop := bitsPensRow.holds Try.pinned (OpenSpec.ofChange bitsPensWrong)

/-- 'praxinoscopelaw01.BitsKnown': WHATEVER THE INPUT: true; the input reads as it did. -/
def bitsKnownSpec : ChangeSpec := { name := "bitsKnown", fn := fun _ => fun
  | [] => { results := [.lit (.bool true)], args := [] }
  | _ => none }
def bitsKnownRow : OpenClaim := { program := "ytejomjkkjcnfnaa", sum := "03673af41276a72b04dcf9e2a9e125a8b98fa362a2ac51bb1655072a061d1b4c", func := "praxinoscope/praxinoscopelaw01.BitsKnown", spec := "bitsKnown", unfollowed := true, recurses := true, apart := false }
def BitsKnownSaid : Prop := bitsKnownRow.holds Try.pinned (OpenSpec.ofChange bitsKnownSpec)

/-- ITS FALSE NEIGHBOUR: 'it returns false'. Refute it at one input. -/
def bitsKnownWrong : ChangeSpec := { name := "bitsKnown", fn := fun _ => fun
  | [] => { results := [.lit (.bool false)], args := [] }
  | _ => none }
def BitsKnownWrongFalsely : Prop := bitsKnownRow.holds Try.pinned (OpenSpec.ofChange bitsKnownWrong)

/-- 'praxinoscopelaw01.BitsBack': WHATEVER THE INPUT: true; the input reads as it did. -/
def bitsBackSpec : ChangeSpec := { name := "bitsBack", fn := fun _ => fun
  | [d] => { results := [.lit (.bool true)], args := [d] }
  | _ => none }
def bitsBackRow : OpenClaim := { program := "ytejomjkkjcnfnaa", sum := "03673af41276a72b04dcf9e2a9e125a8b98fa362a2ac51bb1655072a061d1b4c", func := "praxinoscope/praxinoscopelaw01.BitsBack", spec := "bitsBack", unfollowed := true, recurses := true, apart := false }
def BitsBackSaid : Prop := bitsBackRow.holds Try.pinned (OpenSpec.ofChange bitsBackSpec)

/-- ITS FALSE NEIGHBOUR: 'it returns false'. Refute it at one input. -/
def bitsBackWrong : ChangeSpec := { name := "bitsBack", fn := fun _ => fun
  | [d] => { results := [.lit (.bool false)], args := [d] }
  | _ => none }
def BitsBackWrongFalsely : Prop := bitsBackRow.holds Try.pinned (OpenSpec.ofChange bitsBackWrong)

/-- 'praxinoscopelaw01.BitsFinds': WHATEVER THE INPUT: true; the input reads as it did. -/
def bitsFindsSpec : ChangeSpec := { name := "bitsFinds", fn := fun _ => fun
  | [d1, d2] => { results := [.lit (.bool true)], args := [d1, d2] }
  | _ => none }
def bitsFindsRow : OpenClaim := { program := "ytejomjkkjcnfnaa", sum := "03673af41276a72b04dcf9e2a9e125a8b98fa362a2ac51bb1655072a061d1b4c", func := "praxinoscope/praxinoscopelaw01.BitsFinds", spec := "bitsFinds", unfollowed := true, recurses := true, apart := false }
def BitsFindsSaid : Prop := bitsFindsRow.holds Try.pinned (OpenSpec.ofChange bitsFindsSpec)

/-- ITS FALSE NEIGHBOUR: 'it returns false'. Refute it at one input. -/
def bitsFindsWrong : ChangeSpec := { name := "bitsFinds", fn := fun _ => fun
  | [d1, d2] => { results := [.lit (.bool false)], args := [d1, d2] }
  | _ => none }
def BitsFindsWrongFalsely : Prop := bitsFindsRow.holds Try.pinned (OpenSpec.ofChange bitsFindsWrong)

/-- 'praxinoscopelaw01.BitsStarts': WHATEVER THE INPUT: true; the input reads as it did. -/
def bitsStartsSpec : ChangeSpec := { name := "bitsStarts", fn := fun _ => fun
  | [d1, d2, d3] => { results := [.lit (.bool true)], args := [d1, d2, d3] }
  | _ => none }
def bitsStartsRow : OpenClaim := { program := "ytejomjkkjcnfnaa", sum := "03673af41276a72b04dcf9e2a9e125a8b98fa362a2ac51bb1655072a061d1b4c", func := "praxinoscope/praxinoscopelaw01.BitsStarts", spec := "bitsStarts", unfollowed := true, recurses := true, apart := false }
def BitsStartsSaid : Prop := bitsStartsRow.holds Try.pinned (OpenSpec.ofChange bitsStartsSpec)

/-- ITS FALSE NEIGHBOUR: 'it returns false'. Refute it at one input. -/
def bitsStartsWrong : ChangeSpec := { name := "bitsStarts", fn := fun _ => fun
  | [d1, d2, d3] => { results := [.lit (.bool false)], args := [d1, d2, d3] }
  | _ => none }
def BitsStartsWrongFalsely : Prop := bitsStartsRow.holds Try.pinned (OpenSpec.ofChange bitsStartsWrong)

/-- 'praxinoscopelaw18.GroupGets': WHATEVER THE INPUT: true; the input reads as it did. -/
def groupGetsSpec : ChangeSpec := { name := "groupGets", fn := fun _ => fun
  | [d1, d2] => { results := [.lit (.bool true)], args := [d1, d2] }
  | _ => none }
def groupGetsRow : OpenClaim := { program := "ytejomjkkjcnfnaa", sum := "03673af41276a72b04dcf9e2a9e125a8b98fa362a2ac51bb1655072a061d1b4c", func := "praxinoscope/praxinoscopelaw18.GroupGets", spec := "groupGets", unfollowed := true, recurses := true, apart := false }
def GroupGetsSaid : Prop := groupGetsRow.holds Try.pinned (OpenSpec.ofChange groupGetsSpec)

/-- ITS FALSE NEIGHBOUR: 'it returns false'. Refute it at one input. -/
def groupGetsWrong : ChangeSpec := { name := "groupGets", fn := fun _ => fun
  | [d1, d2] => { results := [.lit (.bool false)], args := [d1, d2] }
  | _ => none }
def GroupGetsWrongFalsely : Prop := groupGetsRow.holds Try.pinned (OpenSpec.ofChange groupGetsWrong)

/-- 'praxinoscopelaw18.GroupAgain': WHATEVER THE INPUT: true; the input reads as it did. -/
def groupAgainSpec : ChangeSpec := { name := "groupAgain", fn := fun _ => fun
  | [d] => { results := [.lit (.bool true)], args := [d] }
  | _ => none }
def groupAgainRow : OpenClaim := { program := "ytejomjkkjcnfnaa", sum := "03673af41276a72b04dcf9e2a9e125a8b98fa362a2ac51bb1655072a061d1b4c", func := "praxinoscope/praxinoscopelaw18.GroupAgain", spec := "groupAgain", unfollowed := true, recurses := true, apart := false }
def GroupAgainSaid : Prop := groupAgainRow.holds Try.pinned (OpenSpec.ofChange groupAgainSpec)

/-- ITS FALSE NEIGHBOUR: 'it returns false'. Refute it at one input. -/
def groupAgainWrong : ChangeSpec := { name := "groupAgain", fn := fun _ => fun
  | [d] => { results := [.lit (.bool false)], args := [d] }
  | _ => none }
def GroupAgainWrongFalsely : Prop := groupAgainRow.holds Try.pinned (OpenSpec.ofChange groupAgainWrong)

/-- 'praxinoscopelaw18.GroupLong': WHATEVER THE INPUT: true; the input reads as it did. -/
def groupLongSpec : ChangeSpec := { name := "groupLong", fn := fun _ => fun
  | [d1, d2, d3] => { results := [.lit (.bool true)], args := [d1, d2, d3] }
  | _ => none }
def groupLongRow : OpenClaim := { program := "ytejomjkkjcnfnaa", sum := "03673af41276a72b04dcf9e2a9e125a8b98fa362a2ac51bb1655072a061d1b4c", func := "praxinoscope/praxinoscopelaw18.GroupLong", spec := "groupLong", unfollowed := true, recurses := true, apart := false }
def GroupLongSaid : Prop := groupLongRow.holds Try.pinned (OpenSpec.ofChange groupLongSpec)

/-- ITS FALSE NEIGHBOUR: 'it returns false'. Refute it at one input. -/
def groupLongWrong : ChangeSpec := { name := "groupLong", fn := fun _ => fun
  | [d1, d2, d3] => { results := [.lit (.bool false)], args := [d1, d2, d3] }
  | _ => none }
def GroupLongWrongFalsely : Prop := groupLongRow.holds Try.pinned (OpenSpec.ofChange groupLongWrong)

/-- 'praxinoscopelaw18.GroupPuts': WHATEVER THE INPUT: true; the input reads as it did. -/
def groupPutsSpec : ChangeSpec := { name := "groupPuts", fn := fun _ => fun
  | [d1, d2, d3] => { results := [.lit (.bool true)], args := [d1, d2, d3] }
  | _ => none }
def groupPutsRow : OpenClaim := { program := "ytejomjkkjcnfnaa", sum := "03673af41276a72b04dcf9e2a9e125a8b98fa362a2ac51bb1655072a061d1b4c", func := "praxinoscope/praxinoscopelaw18.GroupPuts", spec := "groupPuts", unfollowed := true, recurses := true, apart := false }
def GroupPutsSaid : Prop := groupPutsRow.holds Try.pinned (OpenSpec.ofChange groupPutsSpec)

/-- ITS FALSE NEIGHBOUR: 'it returns false'. Refute it at one input. -/
def groupPutsWrong : ChangeSpec := { name := "groupPuts", fn := fun _ => fun
  | [d1, d2, d3] => { results := [.lit (.bool false)], args := [d1, d2, d3] }
  | _ => none }
def GroupPutsWrongFalsely : Prop := groupPutsRow.holds Try.pinned (OpenSpec.ofChange groupPutsWrong)

/-- 'praxinoscopelaw18.GroupKnown': WHATEVER THE INPUT: true; the input reads as it did. -/
def groupKnownSpec : ChangeSpec := { name := "groupKnown", fn := fun _ => fun
  | [] => { results := [.lit (.bool true)], args := [] }
  | _ => none }
def groupKnownRow : OpenClaim := { program := "ytejomjkkjcnfnaa", sum := "03673af41276a72b04dcf9e2a9e125a8b98fa362a2ac51bb1655072a061d1b4c", func := "praxinoscope/praxinoscopelaw18.GroupKnown", spec := "groupKnown", unfollowed := true, recurses := true, apart := false }
def GroupKnownSaid : Prop := groupKnownRow.holds Try.pinned (OpenSpec.ofChange groupKnownSpec)

/-- ITS FALSE NEIGHBOUR: 'it returns false'. Refute it at one input. -/
def groupKnownWrong : ChangeSpec := { name := "groupKnown", fn := fun _ => fun
  | [] => { results := [.lit (.bool false)], args := [] }
  | _ => none }
def GroupKnownWrongFalsely : Prop := groupKnownRow.holds Try.pinned (OpenSpec.ofChange groupKnownWrong)

/-- 'praxinoscopelaw18.GroupBack': WHATEVER THE INPUT: true; the input reads as it did. -/
def groupBackSpec : ChangeSpec := { name := "groupBack", fn := fun _ => fun
  | [d1, d2, d3, d4, d5] => { results := [.lit (.bool true)], args := [d1, d2, d3, d4, d5] }
  | _ => none }
def groupBackRow : OpenClaim := { program := "ytejomjkkjcnfnaa", sum := "03673af41276a72b04dcf9e2a9e125a8b98fa362a2ac51bb1655072a061d1b4c", func := "praxinoscope/praxinoscopelaw18.GroupBack", spec := "groupBack", unfollowed := true, recurses := true, apart := false }
def GroupBackSaid : Prop := groupBackRow.holds Try.pinned (OpenSpec.ofChange groupBackSpec)

/-- ITS FALSE NEIGHBOUR: 'it returns false'. Refute it at one input. -/
def groupBackWrong : ChangeSpec := { name := "groupBack", fn := fun _ => fun
  | [d1, d2, d3, d4, d5] => { results := [.lit (.bool false)], args := [d1, d2, d3, d4, d5] }
  | _ => none }
def GroupBackWrongFalsely : Prop := groupBackRow.holds Try.pinned (OpenSpec.ofChange groupBackWrong)

/- THE SECOND FORM. 'bulk': how many values and letters a reading holds, each counted each time it is reached (what is shared counts as often as it is met; a slice's spare places count too). A statement '..UptoSaid' is the law's where the arguments, and the package variables that the reading takes, are together of bulk at most 1048576: NARROWER than '..Said'. Prove '..Said' where nothing that the law and all that it calls make is longer than what came in: it says more and counts as full. Else prove '..UptoSaid'. A law counts once. -/
mutual
def uptoBulk {H : Type} : DataW H → Nat
  | .lit (.string bytes) => bytes.length + 1
  | .lit _ => 1
  | .nil => 1
  | .ptr d => uptoBulk d + 1
  | .slice elems spare => uptoBulkAll elems + uptoBulkAll spare + 1
  | .agg parts => uptoBulkAll parts + 1
  | .iface _ d => uptoBulk d + 1
  | .map entries => uptoBulkEntries entries + 1
  | .held _ => 1
def uptoBulkAll {H : Type} : List (DataW H) → Nat
  | [] => 0
  | d :: r => uptoBulk d + uptoBulkAll r
def uptoBulkEntries {H : Type} : List (Lit × DataW H) → Nat
  | [] => 0
  | x :: r => uptoBulkEntry x + uptoBulkEntries r
def uptoBulkEntry {H : Type} : Lit × DataW H → Nat
  | (.string bytes, d) => bytes.length + uptoBulk d + 1
  | (_, d) => uptoBulk d + 1
 end
def uptoSmall : (H : Type) → List (DataW H) → Bool := fun _ ds => decide (uptoBulkAll ds ≤ 1048576)
def OpenSpec.upto (s : _root_.Go.ChangeSpec) : _root_.Go.OpenSpec := { _root_.Go.OpenSpec.ofChange s with cond := some uptoSmall }

/-- 'praxinoscopelaw01.BitsNone', WHERE WHAT IT READS IS OF BULK AT MOST 1048576: true; the input reads as it did. -/
def bitsNoneUptoRow : OpenClaim := { program := "ytejomjkkjcnfnaa", sum := "03673af41276a72b04dcf9e2a9e125a8b98fa362a2ac51bb1655072a061d1b4c", func := "praxinoscope/praxinoscopelaw01.BitsNone", spec := "bitsNone", unfollowed := true, recurses := true, apart := false, narrowed := true }
def BitsNoneUptoSaid : Prop := bitsNoneUptoRow.holds Try.pinned (OpenSpec.upto bitsNoneSpec)

/-- 'praxinoscopelaw01.BitsPens', WHERE WHAT IT READS IS OF BULK AT MOST 1048576: true; the input reads as it did. -/
def bitsPensUptoRow : OpenClaim := { program := "ytejomjkkjcnfnaa", sum := "03673af41276a72b04dcf9e2a9e125a8b98fa362a2ac51bb1655072a061d1b4c", func := "praxinoscope/praxinoscopelaw01.BitsPens", spec := "bitsPens", unfollowed := true, recurses := true, apart := false, narrowed := true }
def BitsPensUptoSaid : Prop := bitsPensUptoRow.holds Try.pinned (OpenSpec.upto bitsPensSpec)

/-- 'praxinoscopelaw01.BitsKnown', WHERE WHAT IT READS IS OF BULK AT MOST 1048576: true; the input reads as it did. -/
def bitsKnownUptoRow : OpenClaim := { program := "ytejomjkkjcnfnaa", sum := "03673af41276a72b04dcf9e2a9e125a8b98fa362a2ac51bb1655072a061d1b4c", func := "praxinoscope/praxinoscopelaw01.BitsKnown", spec := "bitsKnown", unfollowed := true, recurses := true, apart := false, narrowed := true }
def BitsKnownUptoSaid : Prop := bitsKnownUptoRow.holds Try.pinned (OpenSpec.upto bitsKnownSpec)

/-- 'praxinoscopelaw01.BitsBack', WHERE WHAT IT READS IS OF BULK AT MOST 1048576: true; the input reads as it did. -/
def bitsBackUptoRow : OpenClaim := { program := "ytejomjkkjcnfnaa", sum := "03673af41276a72b04dcf9e2a9e125a8b98fa362a2ac51bb1655072a061d1b4c", func := "praxinoscope/praxinoscopelaw01.BitsBack", spec := "bitsBack", unfollowed := true, recurses := true, apart := false, narrowed := true }
def BitsBackUptoSaid : Prop := bitsBackUptoRow.holds Try.pinned (OpenSpec.upto bitsBackSpec)

/-- 'praxinoscopelaw01.BitsFinds', WHERE WHAT IT READS IS OF BULK AT MOST 1048576: true; the input reads as it did. -/
def bitsFindsUptoRow : OpenClaim := { program := "ytejomjkkjcnfnaa", sum := "03673af41276a72b04dcf9e2a9e125a8b98fa362a2ac51bb1655072a061d1b4c", func := "praxinoscope/praxinoscopelaw01.BitsFinds", spec := "bitsFinds", unfollowed := true, recurses := true, apart := false, narrowed := true }
def BitsFindsUptoSaid : Prop := bitsFindsUptoRow.holds Try.pinned (OpenSpec.upto bitsFindsSpec)

/-- 'praxinoscopelaw01.BitsStarts', WHERE WHAT IT READS IS OF BULK AT MOST 1048576: true; the input reads as it did. -/
def bitsStartsUptoRow : OpenClaim := { program := "ytejomjkkjcnfnaa", sum := "03673af41276a72b04dcf9e2a9e125a8b98fa362a2ac51bb1655072a061d1b4c", func := "praxinoscope/praxinoscopelaw01.BitsStarts", spec := "bitsStarts", unfollowed := true, recurses := true, apart := false, narrowed := true }
def BitsStartsUptoSaid : Prop := bitsStartsUptoRow.holds Try.pinned (OpenSpec.upto bitsStartsSpec)

/-- 'praxinoscopelaw18.GroupGets', WHERE WHAT IT READS IS OF BULK AT MOST 1048576: true; the input reads as it did. -/
def groupGetsUptoRow : OpenClaim := { program := "ytejomjkkjcnfnaa", sum := "03673af41276a72b04dcf9e2a9e125a8b98fa362a2ac51bb1655072a061d1b4c", func := "praxinoscope/praxinoscopelaw18.GroupGets", spec := "groupGets", unfollowed := true, recurses := true, apart := false, narrowed := true }
def GroupGetsUptoSaid : Prop := groupGetsUptoRow.holds Try.pinned (OpenSpec.upto groupGetsSpec)

/-- 'praxinoscopelaw18.GroupAgain', WHERE WHAT IT READS IS OF BULK AT MOST 1048576: true; the input reads as it did. -/
def groupAgainUptoRow : OpenClaim := { program := "ytejomjkkjcnfnaa", sum := "03673af41276a72b04dcf9e2a9e125a8b98fa362a2ac51bb1655072a061d1b4c", func := "praxinoscope/praxinoscopelaw18.GroupAgain", spec := "groupAgain", unfollowed := true, recurses := true, apart := false, narrowed := true }
def GroupAgainUptoSaid : Prop := groupAgainUptoRow.holds Try.pinned (OpenSpec.upto groupAgainSpec)

/-- 'praxinoscopelaw18.GroupLong', WHERE WHAT IT READS IS OF BULK AT MOST 1048576: true; the input reads as it did. -/
def groupLongUptoRow : OpenClaim := { program := "ytejomjkkjcnfnaa", sum := "03673af41276a72b04dcf9e2a9e125a8b98fa362a2ac51bb1655072a061d1b4c", func := "praxinoscope/praxinoscopelaw18.GroupLong", spec := "groupLong", unfollowed := true, recurses := true, apart := false, narrowed := true }
def GroupLongUptoSaid : Prop := groupLongUptoRow.holds Try.pinned (OpenSpec.upto groupLongSpec)

/-- 'praxinoscopelaw18.GroupPuts', WHERE WHAT IT READS IS OF BULK AT MOST 1048576: true; the input reads as it did. -/
def groupPutsUptoRow : OpenClaim := { program := "ytejomjkkjcnfnaa", sum := "03673af41276a72b04dcf9e2a9e125a8b98fa362a2ac51bb1655072a061d1b4c", func := "praxinoscope/praxinoscopelaw18.GroupPuts", spec := "groupPuts", unfollowed := true, recurses := true, apart := false, narrowed := true }
def GroupPutsUptoSaid : Prop := groupPutsUptoRow.holds Try.pinned (OpenSpec.upto groupPutsSpec)

/-- 'praxinoscopelaw18.GroupKnown', WHERE WHAT IT READS IS OF BULK AT MOST 1048576: true; the input reads as it did. -/
def groupKnownUptoRow : OpenClaim := { program := "ytejomjkkjcnfnaa", sum := "03673af41276a72b04dcf9e2a9e125a8b98fa362a2ac51bb1655072a061d1b4c", func := "praxinoscope/praxinoscopelaw18.GroupKnown", spec := "groupKnown", unfollowed := true, recurses := true, apart := false, narrowed := true }
def GroupKnownUptoSaid : Prop := groupKnownUptoRow.holds Try.pinned (OpenSpec.upto groupKnownSpec)

/-- 'praxinoscopelaw18.GroupBack', WHERE WHAT IT READS IS OF BULK AT MOST 1048576: true; the input reads as it did. -/
def groupBackUptoRow : OpenClaim := { program := "ytejomjkkjcnfnaa", sum := "03673af41276a72b04dcf9e2a9e125a8b98fa362a2ac51bb1655072a061d1b4c", func := "praxinoscope/praxinoscopelaw18.GroupBack", spec := "groupBack", unfollowed := true, recurses := true, apart := false, narrowed := true }
def GroupBackUptoSaid : Prop := groupBackUptoRow.holds Try.pinned (OpenSpec.upto groupBackSpec)

end Rows
end Go.Proofs.Ytejomjkkjcnfnaa
