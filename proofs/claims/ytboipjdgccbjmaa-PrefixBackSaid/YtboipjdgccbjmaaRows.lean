/-
  No cell of these rows narrows 'for every input' (looked for: loops, veiled, ifaces, maps, wideKeys, modest, calm, conditions, laid).
  DERIVED. THE GIVEN ROWS OF THIS SEAT. 10 by the template 'for every input the law returns true; each argument reads behind the call as it read before'; 0 by the template 'total and deterministic' (their statements: YtboipjdgccbjmaaTotals.lean).
  GIVEN WITH THE SEED: the statements are not yours to turn. If you find one false, say at which input.
  Laid BY PROGRAM, IN A SANDBOX (cutbox-rows.mjs): the forced cells as the released guide's own fill.sh prints them over the translation 9525bb2ab06178a6… (all of the seat's roots in one cut). By AI agents, Wed Nov 11 2026. No macro, syntax, notation, axiom, sorry.
-/
import Derived.Test.YtboipjdgccbjmaaChecked
import GoSem.Claim
import GoSem.ClaimJoined
import GoSem.ClaimMapViews
import Derived.JoinedTies
import Derived.KernelRfl
namespace Go.Proofs.Ytboipjdgccbjmaa
/- THE CELL 'sum', in the pinned program and in every row, IS THE sha256 OF THE DUMP (.gsa) THAT YtboipjdgccbjmaaProg.lean LOADS. Nothing in Lean hashes anything: it is a label: what it is worth is what the hold of that sum in a sandbox is worth. -/
noncomputable def Try.pinned : Pinned := { name := "ytboipjdgccbjmaa", sum := "9525bb2ab06178a627576992e60a77bf4ac53fdd2196db51d1620ecacdbdd34f", checked := Try.checked }
namespace Rows
def none {H : Type} : Left H := { results := [], args := [] }

/-- 'praxinoscopelaw17.PictureTells': WHATEVER THE INPUT: true; the input reads as it did. -/
def pictureTellsSpec : ChangeSpec := { name := "pictureTells", fn := fun _ => fun
  | [d] => { results := [.lit (.bool true)], args := [d] }
  | _ => none }
def pictureTellsRow : OpenClaim := { program := "ytboipjdgccbjmaa", sum := "9525bb2ab06178a627576992e60a77bf4ac53fdd2196db51d1620ecacdbdd34f", func := "praxinoscope/praxinoscopelaw17.PictureTells", spec := "pictureTells", inPlace := ["internal/abi.NoEscape"], unfollowed := true, recurses := true, apart := false }
def PictureTellsSaid : Prop := pictureTellsRow.holds Try.pinned (OpenSpec.ofChange pictureTellsSpec)

/-- ITS FALSE NEIGHBOUR: 'it returns false'. Refute it at one input. -/
def pictureTellsWrong : ChangeSpec := { name := "pictureTells", fn := fun _ => fun
  | [d] => { results := [.lit (.bool false)], args := [d] }
  | _ => none }
def PictureTellsWrongFalsely : Prop := pictureTellsRow.holds Try.pinned (OpenSpec.ofChange pictureTellsWrong)

/-- 'praxinoscopelaw17.PictureReads': WHATEVER THE INPUT: true; the input reads as it did. -/
def pictureReadsSpec : ChangeSpec := { name := "pictureReads", fn := fun _ => fun
  | [d1, d2] => { results := [.lit (.bool true)], args := [d1, d2] }
  | _ => none }
def pictureReadsRow : OpenClaim := { program := "ytboipjdgccbjmaa", sum := "9525bb2ab06178a627576992e60a77bf4ac53fdd2196db51d1620ecacdbdd34f", func := "praxinoscope/praxinoscopelaw17.PictureReads", spec := "pictureReads", inPlace := ["internal/abi.NoEscape"], unfollowed := true, recurses := true, apart := false }
def PictureReadsSaid : Prop := pictureReadsRow.holds Try.pinned (OpenSpec.ofChange pictureReadsSpec)

/-- ITS FALSE NEIGHBOUR: 'it returns false'. Refute it at one input. -/
def pictureReadsWrong : ChangeSpec := { name := "pictureReads", fn := fun _ => fun
  | [d1, d2] => { results := [.lit (.bool false)], args := [d1, d2] }
  | _ => none }
def PictureReadsWrongFalsely : Prop := pictureReadsRow.holds Try.pinned (OpenSpec.ofChange pictureReadsWrong)

/-- 'praxinoscopelaw17.PictureKnown': WHATEVER THE INPUT: true; the input reads as it did. -/
def pictureKnownSpec : ChangeSpec := { name := "pictureKnown", fn := fun _ => fun
  | [] => { results := [.lit (.bool true)], args := [] }
  | _ => none }
def pictureKnownRow : OpenClaim := { program := "ytboipjdgccbjmaa", sum := "9525bb2ab06178a627576992e60a77bf4ac53fdd2196db51d1620ecacdbdd34f", func := "praxinoscope/praxinoscopelaw17.PictureKnown", spec := "pictureKnown", inPlace := ["internal/abi.NoEscape"], unfollowed := true, recurses := true, apart := false }
def PictureKnownSaid : Prop := pictureKnownRow.holds Try.pinned (OpenSpec.ofChange pictureKnownSpec)

/-- ITS FALSE NEIGHBOUR: 'it returns false'. Refute it at one input. -/
def pictureKnownWrong : ChangeSpec := { name := "pictureKnown", fn := fun _ => fun
  | [] => { results := [.lit (.bool false)], args := [] }
  | _ => none }
def PictureKnownWrongFalsely : Prop := pictureKnownRow.holds Try.pinned (OpenSpec.ofChange pictureKnownWrong)

/-- 'praxinoscopelaw17.PictureAgain': WHATEVER THE INPUT: true; the input reads as it did. -/
def pictureAgainSpec : ChangeSpec := { name := "pictureAgain", fn := fun _ => fun
  | [d1, d2] => { results := [.lit (.bool true)], args := [d1, d2] }
  | _ => none }
def pictureAgainRow : OpenClaim := { program := "ytboipjdgccbjmaa", sum := "9525bb2ab06178a627576992e60a77bf4ac53fdd2196db51d1620ecacdbdd34f", func := "praxinoscope/praxinoscopelaw17.PictureAgain", spec := "pictureAgain", inPlace := ["internal/abi.NoEscape"], unfollowed := true, recurses := true, apart := false }
def PictureAgainSaid : Prop := pictureAgainRow.holds Try.pinned (OpenSpec.ofChange pictureAgainSpec)

/-- ITS FALSE NEIGHBOUR: 'it returns false'. Refute it at one input. -/
def pictureAgainWrong : ChangeSpec := { name := "pictureAgain", fn := fun _ => fun
  | [d1, d2] => { results := [.lit (.bool false)], args := [d1, d2] }
  | _ => none }
def PictureAgainWrongFalsely : Prop := pictureAgainRow.holds Try.pinned (OpenSpec.ofChange pictureAgainWrong)

/-- 'praxinoscopelaw17.PictureBack': WHATEVER THE INPUT: true; the input reads as it did. -/
def pictureBackSpec : ChangeSpec := { name := "pictureBack", fn := fun _ => fun
  | [d1, d2, d3] => { results := [.lit (.bool true)], args := [d1, d2, d3] }
  | _ => none }
def pictureBackRow : OpenClaim := { program := "ytboipjdgccbjmaa", sum := "9525bb2ab06178a627576992e60a77bf4ac53fdd2196db51d1620ecacdbdd34f", func := "praxinoscope/praxinoscopelaw17.PictureBack", spec := "pictureBack", inPlace := ["internal/abi.NoEscape"], unfollowed := true, recurses := true, apart := false }
def PictureBackSaid : Prop := pictureBackRow.holds Try.pinned (OpenSpec.ofChange pictureBackSpec)

/-- ITS FALSE NEIGHBOUR: 'it returns false'. Refute it at one input. -/
def pictureBackWrong : ChangeSpec := { name := "pictureBack", fn := fun _ => fun
  | [d1, d2, d3] => { results := [.lit (.bool false)], args := [d1, d2, d3] }
  | _ => none }
def PictureBackWrongFalsely : Prop := pictureBackRow.holds Try.pinned (OpenSpec.ofChange pictureBackWrong)

/-- 'praxinoscopelaw03.PrefixTells': WHATEVER THE INPUT: true; the input reads as it did. -/
def prefixTellsSpec : ChangeSpec := { name := "prefixTells", fn := fun _ => fun
  | [d1, d2, d3, d4, d5] => { results := [.lit (.bool true)], args := [d1, d2, d3, d4, d5] }
  | _ => none }
def prefixTellsRow : OpenClaim := { program := "ytboipjdgccbjmaa", sum := "9525bb2ab06178a627576992e60a77bf4ac53fdd2196db51d1620ecacdbdd34f", func := "praxinoscope/praxinoscopelaw03.PrefixTells", spec := "prefixTells", unfollowed := true, recurses := true, apart := false }
def PrefixTellsSaid : Prop := prefixTellsRow.holds Try.pinned (OpenSpec.ofChange prefixTellsSpec)

/-- ITS FALSE NEIGHBOUR: 'it returns false'. Refute it at one input. -/
def prefixTellsWrong : ChangeSpec := { name := "prefixTells", fn := fun _ => fun
  | [d1, d2, d3, d4, d5] => { results := [.lit (.bool false)], args := [d1, d2, d3, d4, d5] }
  | _ => none }
def PrefixTellsWrongFalsely : Prop := prefixTellsRow.holds Try.pinned (OpenSpec.ofChange prefixTellsWrong)

/-- 'praxinoscopelaw03.PrefixNone': WHATEVER THE INPUT: true; the input reads as it did. -/
def prefixNoneSpec : ChangeSpec := { name := "prefixNone", fn := fun _ => fun
  | [d1, d2, d3] => { results := [.lit (.bool true)], args := [d1, d2, d3] }
  | _ => none }
def prefixNoneRow : OpenClaim := { program := "ytboipjdgccbjmaa", sum := "9525bb2ab06178a627576992e60a77bf4ac53fdd2196db51d1620ecacdbdd34f", func := "praxinoscope/praxinoscopelaw03.PrefixNone", spec := "prefixNone", unfollowed := true, recurses := true, apart := false }
def PrefixNoneSaid : Prop := prefixNoneRow.holds Try.pinned (OpenSpec.ofChange prefixNoneSpec)

/-- ITS FALSE NEIGHBOUR: 'it returns false'. Refute it at one input. -/
def prefixNoneWrong : ChangeSpec := { name := "prefixNone", fn := fun _ => fun
  | [d1, d2, d3] => { results := [.lit (.bool false)], args := [d1, d2, d3] }
  | _ => none }
def PrefixNoneWrongFalsely : Prop := prefixNoneRow.holds Try.pinned (OpenSpec.ofChange prefixNoneWrong)

/-- 'praxinoscopelaw03.PrefixKnown': WHATEVER THE INPUT: true; the input reads as it did. -/
def prefixKnownSpec : ChangeSpec := { name := "prefixKnown", fn := fun _ => fun
  | [] => { results := [.lit (.bool true)], args := [] }
  | _ => none }
def prefixKnownRow : OpenClaim := { program := "ytboipjdgccbjmaa", sum := "9525bb2ab06178a627576992e60a77bf4ac53fdd2196db51d1620ecacdbdd34f", func := "praxinoscope/praxinoscopelaw03.PrefixKnown", spec := "prefixKnown", unfollowed := true, recurses := true, apart := false }
def PrefixKnownSaid : Prop := prefixKnownRow.holds Try.pinned (OpenSpec.ofChange prefixKnownSpec)

/-- ITS FALSE NEIGHBOUR: 'it returns false'. Refute it at one input. -/
def prefixKnownWrong : ChangeSpec := { name := "prefixKnown", fn := fun _ => fun
  | [] => { results := [.lit (.bool false)], args := [] }
  | _ => none }
def PrefixKnownWrongFalsely : Prop := prefixKnownRow.holds Try.pinned (OpenSpec.ofChange prefixKnownWrong)

/-- 'praxinoscopelaw03.PrefixOne': WHATEVER THE INPUT: true; the input reads as it did. -/
def prefixOneSpec : ChangeSpec := { name := "prefixOne", fn := fun _ => fun
  | [d1, d2, d3] => { results := [.lit (.bool true)], args := [d1, d2, d3] }
  | _ => none }
def prefixOneRow : OpenClaim := { program := "ytboipjdgccbjmaa", sum := "9525bb2ab06178a627576992e60a77bf4ac53fdd2196db51d1620ecacdbdd34f", func := "praxinoscope/praxinoscopelaw03.PrefixOne", spec := "prefixOne", unfollowed := true, recurses := true, apart := false }
def PrefixOneSaid : Prop := prefixOneRow.holds Try.pinned (OpenSpec.ofChange prefixOneSpec)

/-- ITS FALSE NEIGHBOUR: 'it returns false'. Refute it at one input. -/
def prefixOneWrong : ChangeSpec := { name := "prefixOne", fn := fun _ => fun
  | [d1, d2, d3] => { results := [.lit (.bool false)], args := [d1, d2, d3] }
  | _ => none }
def PrefixOneWrongFalsely : Prop := prefixOneRow.holds Try.pinned (OpenSpec.ofChange prefixOneWrong)

/-- 'praxinoscopelaw03.PrefixBack': WHATEVER THE INPUT: true; the input reads as it did. -/
def prefixBackSpec : ChangeSpec := { name := "prefixBack", fn := fun _ => fun
  | [d1, d2] => { results := [.lit (.bool true)], args := [d1, d2] }
  | _ => none }
def prefixBackRow : OpenClaim := { program := "ytboipjdgccbjmaa", sum := "9525bb2ab06178a627576992e60a77bf4ac53fdd2196db51d1620ecacdbdd34f", func := "praxinoscope/praxinoscopelaw03.PrefixBack", spec := "prefixBack", unfollowed := true, recurses := true, apart := false }
def PrefixBackSaid : Prop := prefixBackRow.holds Try.pinned (OpenSpec.ofChange prefixBackSpec)

/-- ITS FALSE NEIGHBOUR: 'it returns false'. Refute it at one input. -/
def prefixBackWrong : ChangeSpec := { name := "prefixBack", fn := fun _ => fun
  | [d1, d2] => { results := [.lit (.bool false)], args := [d1, d2] }
  | _ => none }
def PrefixBackWrongFalsely : Prop := prefixBackRow.holds Try.pinned (OpenSpec.ofChange prefixBackWrong)

/- THE SECOND FORM. 'bulk': how many values and letters a reading holds, each counted each time it is reached (what is shared counts as often as it is met; a slice's spare places count too). A statement '..UptoSaid' is the law's where the arguments, and the package variables that the reading takes, are together of bulk at most 1048576: NARROWER than '..Said'. Prove '..Said' where nothing that the law and all that it calls make is longer than what came in: it says more and counts as full. Else prove '..UptoSaid'. A law counts once. -/
mutual
def uptoBulk {H : Type} : DataW H → Nat
  | .lit (.string bytes) => bytes.length + 1
  | .lit _ => 1
  | .nil => 1
  | .ptr d => uptoBulk d + 1
  | .slice elems spare => uptoBulkAll elems + uptoBulkAll spare + 1
  | .agg parts => uptoBulkAll parts + 1
  | .iface _ d => uptoBulk d + 1
  | .map entries => uptoBulkEntries entries + 1
  | .held _ => 1
def uptoBulkAll {H : Type} : List (DataW H) → Nat
  | [] => 0
  | d :: r => uptoBulk d + uptoBulkAll r
def uptoBulkEntries {H : Type} : List (Lit × DataW H) → Nat
  | [] => 0
  | x :: r => uptoBulkEntry x + uptoBulkEntries r
def uptoBulkEntry {H : Type} : Lit × DataW H → Nat
  | (.string bytes, d) => bytes.length + uptoBulk d + 1
  | (_, d) => uptoBulk d + 1
 end
def uptoSmall : (H : Type) → List (DataW H) → Bool := fun _ ds => decide (uptoBulkAll ds ≤ 1048576)
def OpenSpec.upto (s : _root_.Go.ChangeSpec) : _root_.Go.OpenSpec := { _root_.Go.OpenSpec.ofChange s with cond := some uptoSmall }

/-- 'praxinoscopelaw17.PictureTells', WHERE WHAT IT READS IS OF BULK AT MOST 1048576: true; the input reads as it did. -/
def pictureTellsUptoRow : OpenClaim := { program := "ytboipjdgccbjmaa", sum := "9525bb2ab06178a627576992e60a77bf4ac53fdd2196db51d1620ecacdbdd34f", func := "praxinoscope/praxinoscopelaw17.PictureTells", spec := "pictureTells", inPlace := ["internal/abi.NoEscape"], unfollowed := true, recurses := true, apart := false, narrowed := true }
def PictureTellsUptoSaid : Prop := pictureTellsUptoRow.holds Try.pinned (OpenSpec.upto pictureTellsSpec)

/-- 'praxinoscopelaw17.PictureReads', WHERE WHAT IT READS IS OF BULK AT MOST 1048576: true; the input reads as it did. -/
def pictureReadsUptoRow : OpenClaim := { program := "ytboipjdgccbjmaa", sum := "9525bb2ab06178a627576992e60a77bf4ac53fdd2196db51d1620ecacdbdd34f", func := "praxinoscope/praxinoscopelaw17.PictureReads", spec := "pictureReads", inPlace := ["internal/abi.NoEscape"], unfollowed := true, recurses := true, apart := false, narrowed := true }
def PictureReadsUptoSaid : Prop := pictureReadsUptoRow.holds Try.pinned (OpenSpec.upto pictureReadsSpec)

/-- 'praxinoscopelaw17.PictureKnown', WHERE WHAT IT READS IS OF BULK AT MOST 1048576: true; the input reads as it did. -/
def pictureKnownUptoRow : OpenClaim := { program := "ytboipjdgccbjmaa", sum := "9525bb2ab06178a627576992e60a77bf4ac53fdd2196db51d1620ecacdbdd34f", func := "praxinoscope/praxinoscopelaw17.PictureKnown", spec := "pictureKnown", inPlace := ["internal/abi.NoEscape"], unfollowed := true, recurses := true, apart := false, narrowed := true }
def PictureKnownUptoSaid : Prop := pictureKnownUptoRow.holds Try.pinned (OpenSpec.upto pictureKnownSpec)

/-- 'praxinoscopelaw17.PictureAgain', WHERE WHAT IT READS IS OF BULK AT MOST 1048576: true; the input reads as it did. -/
def pictureAgainUptoRow : OpenClaim := { program := "ytboipjdgccbjmaa", sum := "9525bb2ab06178a627576992e60a77bf4ac53fdd2196db51d1620ecacdbdd34f", func := "praxinoscope/praxinoscopelaw17.PictureAgain", spec := "pictureAgain", inPlace := ["internal/abi.NoEscape"], unfollowed := true, recurses := true, apart := false, narrowed := true }
def PictureAgainUptoSaid : Prop := pictureAgainUptoRow.holds Try.pinned (OpenSpec.upto pictureAgainSpec)

/-- 'praxinoscopelaw17.PictureBack', WHERE WHAT IT READS IS OF BULK AT MOST 1048576: true; the input reads as it did. -/
def pictureBackUptoRow : OpenClaim := { program := "ytboipjdgccbjmaa", sum := "9525bb2ab06178a627576992e60a77bf4ac53fdd2196db51d1620ecacdbdd34f", func := "praxinoscope/praxinoscopelaw17.PictureBack", spec := "pictureBack", inPlace := ["internal/abi.NoEscape"], unfollowed := true, recurses := true, apart := false, narrowed := true }
def PictureBackUptoSaid : Prop := pictureBackUptoRow.holds Try.pinned (OpenSpec.upto pictureBackSpec)

/-- 'praxinoscopelaw03.PrefixTells', WHERE WHAT IT READS IS OF BULK AT MOST 1048576: true; the input reads as it did. -/
def prefixTellsUptoRow : OpenClaim := { program := "ytboipjdgccbjmaa", sum := "9525bb2ab06178a627576992e60a77bf4ac53fdd2196db51d1620ecacdbdd34f", func := "praxinoscope/praxinoscopelaw03.PrefixTells", spec := "prefixTells", unfollowed := true, recurses := true, apart := false, narrowed := true }
def PrefixTellsUptoSaid : Prop := prefixTellsUptoRow.holds Try.pinned (OpenSpec.upto prefixTellsSpec)

/-- 'praxinoscopelaw03.PrefixNone', WHERE WHAT IT READS IS OF BULK AT MOST 1048576: true; the input reads as it did. -/
def prefixNoneUptoRow : OpenClaim := { program := "ytboipjdgccbjmaa", sum := "9525bb2ab06178a627576992e60a77bf4ac53fdd2196db51d1620ecacdbdd34f", func := "praxinoscope/praxinoscopelaw03.PrefixNone", spec := "prefixNone", unfollowed := true, recurses := true, apart := false, narrowed := true }
def PrefixNoneUptoSaid : Prop := prefixNoneUptoRow.holds Try.pinned (OpenSpec.upto prefixNoneSpec)

/-- 'praxinoscopelaw03.PrefixKnown', WHERE WHAT IT READS IS OF BULK AT MOST 1048576: true; the input reads as it did. -/
def prefixKnownUptoRow : OpenClaim := { program := "ytboipjdgccbjmaa", sum := "9525bb2ab06178a627576992e60a77bf4ac53fdd2196db51d1620ecacdbdd34f", func := "praxinoscope/praxinoscopelaw03.PrefixKnown", spec := "prefixKnown", unfollowed := true, recurses := true, apart := false, narrowed := true }
def PrefixKnownUptoSaid : Prop := prefixKnownUptoRow.holds Try.pinned (OpenSpec.upto prefixKnownSpec)

/-- 'praxinoscopelaw03.PrefixOne', WHERE WHAT IT READS IS OF BULK AT MOST 1048576: true; the input reads as it did. -/
def prefixOneUptoRow : OpenClaim := { program := "ytboipjdgccbjmaa", sum := "9525bb2ab06178a627576992e60a77bf4ac53fdd2196db51d1620ecacdbdd34f", func := "praxinoscope/praxinoscopelaw03.PrefixOne", spec := "prefixOne", unfollowed := true, recurses := true, apart := false, narrowed := true }
def PrefixOneUptoSaid : Prop := prefixOneUptoRow.holds Try.pinned (OpenSpec.upto prefixOneSpec)

/-- 'praxinoscopelaw03.PrefixBack', WHERE WHAT IT READS IS OF BULK AT MOST 1048576: true; the input reads as it did. -/
def prefixBackUptoRow : OpenClaim := { program := "ytboipjdgccbjmaa", sum := "9525bb2ab06178a627576992e60a77bf4ac53fdd2196db51d1620ecacdbdd34f", func := "praxinoscope/praxinoscopelaw03.PrefixBack", spec := "prefixBack", unfollowed := true, recurses := true, apart := false, narrowed := true }
def PrefixBackUptoSaid : Prop := prefixBackUptoRow.holds Try.pinned (OpenSpec.upto prefixBackSpec)

end Rows
end Go.Proofs.Ytboipjdgccbjmaa
