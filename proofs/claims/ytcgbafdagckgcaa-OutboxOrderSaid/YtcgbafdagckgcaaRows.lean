/-
  No cell of these rows narrows 'for every input' (looked for: loops, veiled, ifaces, maps, wideKeys, modest, calm, conditions, laid).
  DERIVED. THE GIVEN ROWS OF THIS SEAT. 10 by the template 'for every input the law returns true; each argument reads behind the call as it read before'; 0 by the template 'total and deterministic' (their statements: YtcgbafdagckgcaaTotals.lean).
  GIVEN WITH THE SEED: the statements are not yours to turn. If you find one false, say at which input.
  Laid BY PROGRAM, IN A SANDBOX (cutbox-rows.mjs): the forced cells as the released guide's own fill.sh prints them over the translation 76d17736102161f7… (all of the seat's roots in one cut). By AI agents, Wed Nov 11 2026. No macro, syntax, notation, axiom, sorry.
-/
import Derived.Test.YtcgbafdagckgcaaChecked
import GoSem.Claim
import GoSem.ClaimJoined
import GoSem.ClaimMapViews
import Derived.JoinedTies
import Derived.KernelRfl
namespace Go.Proofs.Ytcgbafdagckgcaa
/- THE CELL 'sum', in the pinned program and in every row, IS THE sha256 OF THE DUMP (.gsa) THAT YtcgbafdagckgcaaProg.lean LOADS. Nothing in Lean hashes anything: it is a label: what it is worth is what the hold of that sum in a sandbox is worth. -/
noncomputable def Try.pinned : Pinned := { name := "ytcgbafdagckgcaa", sum := "76d17736102161f7b3454bb75cf76e914a666e1a28ab0c37a8e6c6fdd370e140", checked := Try.checked }
namespace Rows
def none {H : Type} : Left H := { results := [], args := [] }

/-- 'praxinoscopelaw24.OutboxRound': WHATEVER THE INPUT: true; the input reads as it did. -/
def outboxRoundSpec : ChangeSpec := { name := "outboxRound", fn := fun _ => fun
  | [d1, d2, d3] => { results := [.lit (.bool true)], args := [d1, d2, d3] }
  | _ => none }
def outboxRoundRow : OpenClaim := { program := "ytcgbafdagckgcaa", sum := "76d17736102161f7b3454bb75cf76e914a666e1a28ab0c37a8e6c6fdd370e140", func := "praxinoscope/praxinoscopelaw24.OutboxRound", spec := "outboxRound", apart := false }
def OutboxRoundSaid : Prop := outboxRoundRow.holds Try.pinned (OpenSpec.ofChange outboxRoundSpec)

/-- ITS FALSE NEIGHBOUR: 'it returns false'. Refute it at one input. -/
def outboxRoundWrong : ChangeSpec := { name := "outboxRound", fn := fun _ => fun
  | [d1, d2, d3] => { results := [.lit (.bool false)], args := [d1, d2, d3] }
  | _ => none }
def OutboxRoundWrongFalsely : Prop := outboxRoundRow.holds Try.pinned (OpenSpec.ofChange outboxRoundWrong)

/-- 'praxinoscopelaw24.OutboxScript': WHATEVER THE INPUT: true; the input reads as it did. -/
def outboxScriptSpec : ChangeSpec := { name := "outboxScript", fn := fun _ => fun
  | [d1, d2] => { results := [.lit (.bool true)], args := [d1, d2] }
  | _ => none }
def outboxScriptRow : OpenClaim := { program := "ytcgbafdagckgcaa", sum := "76d17736102161f7b3454bb75cf76e914a666e1a28ab0c37a8e6c6fdd370e140", func := "praxinoscope/praxinoscopelaw24.OutboxScript", spec := "outboxScript", unfollowed := true, recurses := true, apart := false }
def OutboxScriptSaid : Prop := outboxScriptRow.holds Try.pinned (OpenSpec.ofChange outboxScriptSpec)

/-- ITS FALSE NEIGHBOUR: 'it returns false'. Refute it at one input. -/
def outboxScriptWrong : ChangeSpec := { name := "outboxScript", fn := fun _ => fun
  | [d1, d2] => { results := [.lit (.bool false)], args := [d1, d2] }
  | _ => none }
def OutboxScriptWrongFalsely : Prop := outboxScriptRow.holds Try.pinned (OpenSpec.ofChange outboxScriptWrong)

/-- 'praxinoscopelaw24.OutboxNone': WHATEVER THE INPUT: true; the input reads as it did. -/
def outboxNoneSpec : ChangeSpec := { name := "outboxNone", fn := fun _ => fun
  | [d] => { results := [.lit (.bool true)], args := [d] }
  | _ => none }
def outboxNoneRow : OpenClaim := { program := "ytcgbafdagckgcaa", sum := "76d17736102161f7b3454bb75cf76e914a666e1a28ab0c37a8e6c6fdd370e140", func := "praxinoscope/praxinoscopelaw24.OutboxNone", spec := "outboxNone", unfollowed := true, recurses := true, apart := false }
def OutboxNoneSaid : Prop := outboxNoneRow.holds Try.pinned (OpenSpec.ofChange outboxNoneSpec)

/-- ITS FALSE NEIGHBOUR: 'it returns false'. Refute it at one input. -/
def outboxNoneWrong : ChangeSpec := { name := "outboxNone", fn := fun _ => fun
  | [d] => { results := [.lit (.bool false)], args := [d] }
  | _ => none }
def OutboxNoneWrongFalsely : Prop := outboxNoneRow.holds Try.pinned (OpenSpec.ofChange outboxNoneWrong)

/-- 'praxinoscopelaw24.OutboxKnown': WHATEVER THE INPUT: true; the input reads as it did. -/
def outboxKnownSpec : ChangeSpec := { name := "outboxKnown", fn := fun _ => fun
  | [] => { results := [.lit (.bool true)], args := [] }
  | _ => none }
def outboxKnownRow : OpenClaim := { program := "ytcgbafdagckgcaa", sum := "76d17736102161f7b3454bb75cf76e914a666e1a28ab0c37a8e6c6fdd370e140", func := "praxinoscope/praxinoscopelaw24.OutboxKnown", spec := "outboxKnown", unfollowed := true, recurses := true, apart := false }
def OutboxKnownSaid : Prop := outboxKnownRow.holds Try.pinned (OpenSpec.ofChange outboxKnownSpec)

/-- ITS FALSE NEIGHBOUR: 'it returns false'. Refute it at one input. -/
def outboxKnownWrong : ChangeSpec := { name := "outboxKnown", fn := fun _ => fun
  | [] => { results := [.lit (.bool false)], args := [] }
  | _ => none }
def OutboxKnownWrongFalsely : Prop := outboxKnownRow.holds Try.pinned (OpenSpec.ofChange outboxKnownWrong)

/-- 'praxinoscopelaw24.OutboxOrder': WHATEVER THE INPUT: true; the input reads as it did. -/
def outboxOrderSpec : ChangeSpec := { name := "outboxOrder", fn := fun _ => fun
  | [d1, d2] => { results := [.lit (.bool true)], args := [d1, d2] }
  | _ => none }
def outboxOrderRow : OpenClaim := { program := "ytcgbafdagckgcaa", sum := "76d17736102161f7b3454bb75cf76e914a666e1a28ab0c37a8e6c6fdd370e140", func := "praxinoscope/praxinoscopelaw24.OutboxOrder", spec := "outboxOrder", unfollowed := true, recurses := true, apart := false }
def OutboxOrderSaid : Prop := outboxOrderRow.holds Try.pinned (OpenSpec.ofChange outboxOrderSpec)

/-- ITS FALSE NEIGHBOUR: 'it returns false'. Refute it at one input. -/
def outboxOrderWrong : ChangeSpec := { name := "outboxOrder", fn := fun _ => fun
  | [d1, d2] => { results := [.lit (.bool false)], args := [d1, d2] }
  | _ => none }
def OutboxOrderWrongFalsely : Prop := outboxOrderRow.holds Try.pinned (OpenSpec.ofChange outboxOrderWrong)

/-- 'praxinoscopelaw02.QueueNew': WHATEVER THE INPUT: true; the input reads as it did. -/
def queueNewSpec : ChangeSpec := { name := "queueNew", fn := fun _ => fun
  | [d1, d2, d3, d4] => { results := [.lit (.bool true)], args := [d1, d2, d3, d4] }
  | _ => none }
def queueNewRow : OpenClaim := { program := "ytcgbafdagckgcaa", sum := "76d17736102161f7b3454bb75cf76e914a666e1a28ab0c37a8e6c6fdd370e140", func := "praxinoscope/praxinoscopelaw02.QueueNew", spec := "queueNew", unfollowed := true, recurses := true, apart := false }
def QueueNewSaid : Prop := queueNewRow.holds Try.pinned (OpenSpec.ofChange queueNewSpec)

/-- ITS FALSE NEIGHBOUR: 'it returns false'. Refute it at one input. -/
def queueNewWrong : ChangeSpec := { name := "queueNew", fn := fun _ => fun
  | [d1, d2, d3, d4] => { results := [.lit (.bool false)], args := [d1, d2, d3, d4] }
  | _ => none }
def QueueNewWrongFalsely : Prop := queueNewRow.holds Try.pinned (OpenSpec.ofChange queueNewWrong)

/-- 'praxinoscopelaw02.QueueKnown': WHATEVER THE INPUT: true; the input reads as it did. -/
def queueKnownSpec : ChangeSpec := { name := "queueKnown", fn := fun _ => fun
  | [] => { results := [.lit (.bool true)], args := [] }
  | _ => none }
def queueKnownRow : OpenClaim := { program := "ytcgbafdagckgcaa", sum := "76d17736102161f7b3454bb75cf76e914a666e1a28ab0c37a8e6c6fdd370e140", func := "praxinoscope/praxinoscopelaw02.QueueKnown", spec := "queueKnown", unfollowed := true, recurses := true, apart := false }
def QueueKnownSaid : Prop := queueKnownRow.holds Try.pinned (OpenSpec.ofChange queueKnownSpec)

/-- ITS FALSE NEIGHBOUR: 'it returns false'. Refute it at one input. -/
def queueKnownWrong : ChangeSpec := { name := "queueKnown", fn := fun _ => fun
  | [] => { results := [.lit (.bool false)], args := [] }
  | _ => none }
def QueueKnownWrongFalsely : Prop := queueKnownRow.holds Try.pinned (OpenSpec.ofChange queueKnownWrong)

/-- 'praxinoscopelaw02.QueueRead': WHATEVER THE INPUT: true; the input reads as it did. -/
def queueReadSpec : ChangeSpec := { name := "queueRead", fn := fun _ => fun
  | [d1, d2] => { results := [.lit (.bool true)], args := [d1, d2] }
  | _ => none }
def queueReadRow : OpenClaim := { program := "ytcgbafdagckgcaa", sum := "76d17736102161f7b3454bb75cf76e914a666e1a28ab0c37a8e6c6fdd370e140", func := "praxinoscope/praxinoscopelaw02.QueueRead", spec := "queueRead", unfollowed := true, recurses := true, apart := false }
def QueueReadSaid : Prop := queueReadRow.holds Try.pinned (OpenSpec.ofChange queueReadSpec)

/-- ITS FALSE NEIGHBOUR: 'it returns false'. Refute it at one input. -/
def queueReadWrong : ChangeSpec := { name := "queueRead", fn := fun _ => fun
  | [d1, d2] => { results := [.lit (.bool false)], args := [d1, d2] }
  | _ => none }
def QueueReadWrongFalsely : Prop := queueReadRow.holds Try.pinned (OpenSpec.ofChange queueReadWrong)

/-- 'praxinoscopelaw02.QueueScript': WHATEVER THE INPUT: true; the input reads as it did. -/
def queueScriptSpec : ChangeSpec := { name := "queueScript", fn := fun _ => fun
  | [d1, d2] => { results := [.lit (.bool true)], args := [d1, d2] }
  | _ => none }
def queueScriptRow : OpenClaim := { program := "ytcgbafdagckgcaa", sum := "76d17736102161f7b3454bb75cf76e914a666e1a28ab0c37a8e6c6fdd370e140", func := "praxinoscope/praxinoscopelaw02.QueueScript", spec := "queueScript", unfollowed := true, recurses := true, apart := false }
def QueueScriptSaid : Prop := queueScriptRow.holds Try.pinned (OpenSpec.ofChange queueScriptSpec)

/-- ITS FALSE NEIGHBOUR: 'it returns false'. Refute it at one input. -/
def queueScriptWrong : ChangeSpec := { name := "queueScript", fn := fun _ => fun
  | [d1, d2] => { results := [.lit (.bool false)], args := [d1, d2] }
  | _ => none }
def QueueScriptWrongFalsely : Prop := queueScriptRow.holds Try.pinned (OpenSpec.ofChange queueScriptWrong)

/-- 'praxinoscopelaw02.QueueNone': WHATEVER THE INPUT: true; the input reads as it did. -/
def queueNoneSpec : ChangeSpec := { name := "queueNone", fn := fun _ => fun
  | [d1, d2] => { results := [.lit (.bool true)], args := [d1, d2] }
  | _ => none }
def queueNoneRow : OpenClaim := { program := "ytcgbafdagckgcaa", sum := "76d17736102161f7b3454bb75cf76e914a666e1a28ab0c37a8e6c6fdd370e140", func := "praxinoscope/praxinoscopelaw02.QueueNone", spec := "queueNone", unfollowed := true, recurses := true, apart := false }
def QueueNoneSaid : Prop := queueNoneRow.holds Try.pinned (OpenSpec.ofChange queueNoneSpec)

/-- ITS FALSE NEIGHBOUR: 'it returns false'. Refute it at one input. -/
def queueNoneWrong : ChangeSpec := { name := "queueNone", fn := fun _ => fun
  | [d1, d2] => { results := [.lit (.bool false)], args := [d1, d2] }
  | _ => none }
def QueueNoneWrongFalsely : Prop := queueNoneRow.holds Try.pinned (OpenSpec.ofChange queueNoneWrong)

/- THE SECOND FORM. 'bulk': how many values and letters a reading holds, each counted each time it is reached (what is shared counts as often as it is met; a slice's spare places count too). A statement '..UptoSaid' is the law's where the arguments, and the package variables that the reading takes, are together of bulk at most 1048576: NARROWER than '..Said'. Prove '..Said' where nothing that the law and all that it calls make is longer than what came in: it says more and counts as full. Else prove '..UptoSaid'. A law counts once. -/
mutual
def uptoBulk {H : Type} : DataW H → Nat
  | .lit (.string bytes) => bytes.length + 1
  | .lit _ => 1
  | .nil => 1
  | .ptr d => uptoBulk d + 1
  | .slice elems spare => uptoBulkAll elems + uptoBulkAll spare + 1
  | .agg parts => uptoBulkAll parts + 1
  | .iface _ d => uptoBulk d + 1
  | .map entries => uptoBulkEntries entries + 1
  | .held _ => 1
def uptoBulkAll {H : Type} : List (DataW H) → Nat
  | [] => 0
  | d :: r => uptoBulk d + uptoBulkAll r
def uptoBulkEntries {H : Type} : List (Lit × DataW H) → Nat
  | [] => 0
  | x :: r => uptoBulkEntry x + uptoBulkEntries r
def uptoBulkEntry {H : Type} : Lit × DataW H → Nat
  | (.string bytes, d) => bytes.length + uptoBulk d + 1
  | (_, d) => uptoBulk d + 1
 end
def uptoSmall : (H : Type) → List (DataW H) → Bool := fun _ ds => decide (uptoBulkAll ds ≤ 1048576)
def OpenSpec.upto (s : _root_.Go.ChangeSpec) : _root_.Go.OpenSpec := { _root_.Go.OpenSpec.ofChange s with cond := some uptoSmall }

/-- 'praxinoscopelaw24.OutboxRound', WHERE WHAT IT READS IS OF BULK AT MOST 1048576: true; the input reads as it did. -/
def outboxRoundUptoRow : OpenClaim := { program := "ytcgbafdagckgcaa", sum := "76d17736102161f7b3454bb75cf76e914a666e1a28ab0c37a8e6c6fdd370e140", func := "praxinoscope/praxinoscopelaw24.OutboxRound", spec := "outboxRound", apart := false, narrowed := true }
def OutboxRoundUptoSaid : Prop := outboxRoundUptoRow.holds Try.pinned (OpenSpec.upto outboxRoundSpec)

/-- 'praxinoscopelaw24.OutboxScript', WHERE WHAT IT READS IS OF BULK AT MOST 1048576: true; the input reads as it did. -/
def outboxScriptUptoRow : OpenClaim := { program := "ytcgbafdagckgcaa", sum := "76d17736102161f7b3454bb75cf76e914a666e1a28ab0c37a8e6c6fdd370e140", func := "praxinoscope/praxinoscopelaw24.OutboxScript", spec := "outboxScript", unfollowed := true, recurses := true, apart := false, narrowed := true }
def OutboxScriptUptoSaid : Prop := outboxScriptUptoRow.holds Try.pinned (OpenSpec.upto outboxScriptSpec)

/-- 'praxinoscopelaw24.OutboxNone', WHERE WHAT IT READS IS OF BULK AT MOST 1048576: true; the input reads as it did. -/
def outboxNoneUptoRow : OpenClaim := { program := "ytcgbafdagckgcaa", sum := "76d17736102161f7b3454bb75cf76e914a666e1a28ab0c37a8e6c6fdd370e140", func := "praxinoscope/praxinoscopelaw24.OutboxNone", spec := "outboxNone", unfollowed := true, recurses := true, apart := false, narrowed := true }
def OutboxNoneUptoSaid : Prop := outboxNoneUptoRow.holds Try.pinned (OpenSpec.upto outboxNoneSpec)

/-- 'praxinoscopelaw24.OutboxKnown', WHERE WHAT IT READS IS OF BULK AT MOST 1048576: true; the input reads as it did. -/
def outboxKnownUptoRow : OpenClaim := { program := "ytcgbafdagckgcaa", sum := "76d17736102161f7b3454bb75cf76e914a666e1a28ab0c37a8e6c6fdd370e140", func := "praxinoscope/praxinoscopelaw24.OutboxKnown", spec := "outboxKnown", unfollowed := true, recurses := true, apart := false, narrowed := true }
def OutboxKnownUptoSaid : Prop := outboxKnownUptoRow.holds Try.pinned (OpenSpec.upto outboxKnownSpec)

/-- 'praxinoscopelaw24.OutboxOrder', WHERE WHAT IT READS IS OF BULK AT MOST 1048576: true; the input reads as it did. -/
def outboxOrderUptoRow : OpenClaim := { program := "ytcgbafdagckgcaa", sum := "76d17736102161f7b3454bb75cf76e914a666e1a28ab0c37a8e6c6fdd370e140", func := "praxinoscope/praxinoscopelaw24.OutboxOrder", spec := "outboxOrder", unfollowed := true, recurses := true, apart := false, narrowed := true }
def OutboxOrderUptoSaid : Prop := outboxOrderUptoRow.holds Try.pinned (OpenSpec.upto outboxOrderSpec)

/-- 'praxinoscopelaw02.QueueNew', WHERE WHAT IT READS IS OF BULK AT MOST 1048576: true; the input reads as it did. -/
def queueNewUptoRow : OpenClaim := { program := "ytcgbafdagckgcaa", sum := "76d17736102161f7b3454bb75cf76e914a666e1a28ab0c37a8e6c6fdd370e140", func := "praxinoscope/praxinoscopelaw02.QueueNew", spec := "queueNew", unfollowed := true, recurses := true, apart := false, narrowed := true }
def QueueNewUptoSaid : Prop := queueNewUptoRow.holds Try.pinned (OpenSpec.upto queueNewSpec)

/-- 'praxinoscopelaw02.QueueKnown', WHERE WHAT IT READS IS OF BULK AT MOST 1048576: true; the input reads as it did. -/
def queueKnownUptoRow : OpenClaim := { program := "ytcgbafdagckgcaa", sum := "76d17736102161f7b3454bb75cf76e914a666e1a28ab0c37a8e6c6fdd370e140", func := "praxinoscope/praxinoscopelaw02.QueueKnown", spec := "queueKnown", unfollowed := true, recurses := true, apart := false, narrowed := true }
def QueueKnownUptoSaid : Prop := queueKnownUptoRow.holds Try.pinned (OpenSpec.upto queueKnownSpec)

/-- 'praxinoscopelaw02.QueueRead', WHERE WHAT IT READS IS OF BULK AT MOST 1048576: true; the input reads as it did. -/
def queueReadUptoRow : OpenClaim := { program := "ytcgbafdagckgcaa", sum := "76d17736102161f7b3454bb75cf76e914a666e1a28ab0c37a8e6c6fdd370e140", func := "praxinoscope/praxinoscopelaw02.QueueRead", spec := "queueRead", unfollowed := true, recurses := true, apart := false, narrowed := true }
def QueueReadUptoSaid : Prop := queueReadUptoRow.holds Try.pinned (OpenSpec.upto queueReadSpec)

/-- 'praxinoscopelaw02.QueueScript', WHERE WHAT IT READS IS OF BULK AT MOST 1048576: true; the input reads as it did. -/
def queueScriptUptoRow : OpenClaim := { program := "ytcgbafdagckgcaa", sum := "76d17736102161f7b3454bb75cf76e914a666e1a28ab0c37a8e6c6fdd370e140", func := "praxinoscope/praxinoscopelaw02.QueueScript", spec := "queueScript", unfollowed := true, recurses := true, apart := false, narrowed := true }
def QueueScriptUptoSaid : Prop := queueScriptUptoRow.holds Try.pinned (OpenSpec.upto queueScriptSpec)

/-- 'praxinoscopelaw02.QueueNone', WHERE WHAT IT READS IS OF BULK AT MOST 1048576: true; the input reads as it did. -/
def queueNoneUptoRow : OpenClaim := { program := "ytcgbafdagckgcaa", sum := "76d17736102161f7b3454bb75cf76e914a666e1a28ab0c37a8e6c6fdd370e140", func := "praxinoscope/praxinoscopelaw02.QueueNone", spec := "queueNone", unfollowed := true, recurses := true, apart := false, narrowed := true }
def QueueNoneUptoSaid : Prop := queueNoneUptoRow.holds Try.pinned (OpenSpec.upto queueNoneSpec)

end Rows
end Go.Proofs.Ytcgbafdagckgcaa
