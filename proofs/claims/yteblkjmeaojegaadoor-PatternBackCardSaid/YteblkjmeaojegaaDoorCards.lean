/-
  DERIVED. GIVEN WITH THE SEED: THE CARDS: each row of YteblkjmeaojegaaDoorRows.lean that lists a variable, with what it lists TIED to the program's text (the seventh form; the later family's looks); each row that meets fmt, with fmt's text TOLD by the authors' own Lean function (tested against real Go, not proved from fmt's source: count such statements apart). THE CARD IS WHAT COUNTS. Prove the row's statement (the work); the ties are given (YteblkjmeaojegaaDoorTie.lean); close each card by the builder's one call (the guide's Derived/Test/ToyasCard.lean, 'card_holds'). Laid BY PROGRAM, IN A SANDBOX (cutbox-door.mjs). By AI agents, Wed Nov 11 2026. No macro, syntax, notation, axiom, sorry.
-/
import Derived.Test.YteblkjmeaojegaaDoorRows
import GoSem.ClaimSeven
namespace Go.Proofs.YteblkjmeaojegaaDoor
namespace Rows

/-- THE TIED CARD OF 'praxinoscopelaw07.PatternReads'. -/
def patternReadsCard : Claim7 := { stood := { row := patternReadsRow, standIns := [], harness := (true, "25b31638b12c7d6d4ea0ada67ff521f4ffe2d954d9e601298ad980fe57b734db"), looks := false }, kinds := [], alts := [], laidByText := true, laidKinds := [.data, .listed, .data, .pinned], laidTests := true, laidLooks := .later }
def PatternReadsCardSaid : Prop := Claim7.holds Tryd.pinned (.plain (OpenSpec.ofChange patternReadsSpec)) patternReadsCard

/-- THE TIED CARD OF 'praxinoscopelaw07.PatternTells'. -/
def patternTellsCard : Claim7 := { stood := { row := patternTellsRow, standIns := [], harness := (true, "25b31638b12c7d6d4ea0ada67ff521f4ffe2d954d9e601298ad980fe57b734db"), looks := false }, kinds := [], alts := [], laidByText := true, laidKinds := [.data, .listed, .data, .pinned], laidTests := true, laidLooks := .later }
def PatternTellsCardSaid : Prop := Claim7.holds Tryd.pinned (.plain (OpenSpec.ofChange patternTellsSpec)) patternTellsCard

/-- THE TIED CARD OF 'praxinoscopelaw07.PatternKnown'. -/
def patternKnownCard : Claim7 := { stood := { row := patternKnownRow, standIns := [], harness := (true, "25b31638b12c7d6d4ea0ada67ff521f4ffe2d954d9e601298ad980fe57b734db"), looks := false }, kinds := [], alts := [], laidByText := true, laidKinds := [.data, .listed, .data, .pinned], laidTests := true, laidLooks := .later }
def PatternKnownCardSaid : Prop := Claim7.holds Tryd.pinned (.plain (OpenSpec.ofChange patternKnownSpec)) patternKnownCard

/-- THE TIED CARD OF 'praxinoscopelaw07.PatternSums'. -/
def patternSumsCard : Claim7 := { stood := { row := patternSumsRow, standIns := [], harness := (true, "25b31638b12c7d6d4ea0ada67ff521f4ffe2d954d9e601298ad980fe57b734db"), looks := false }, kinds := [], alts := [], laidByText := true, laidKinds := [.data, .listed, .data, .pinned], laidTests := true, laidLooks := .later }
def PatternSumsCardSaid : Prop := Claim7.holds Tryd.pinned (.plain (OpenSpec.ofChange patternSumsSpec)) patternSumsCard

/-- THE TIED CARD OF 'praxinoscopelaw07.PatternNoughts'. -/
def patternNoughtsCard : Claim7 := { stood := { row := patternNoughtsRow, standIns := [], harness := (true, "25b31638b12c7d6d4ea0ada67ff521f4ffe2d954d9e601298ad980fe57b734db"), looks := false }, kinds := [], alts := [], laidByText := true, laidKinds := [.data, .listed, .data, .pinned], laidTests := true, laidLooks := .later }
def PatternNoughtsCardSaid : Prop := Claim7.holds Tryd.pinned (.plain (OpenSpec.ofChange patternNoughtsSpec)) patternNoughtsCard

/-- THE TIED CARD OF 'praxinoscopelaw07.PatternBack'. -/
def patternBackCard : Claim7 := { stood := { row := patternBackRow, standIns := [], harness := (true, "25b31638b12c7d6d4ea0ada67ff521f4ffe2d954d9e601298ad980fe57b734db"), looks := false }, kinds := [], alts := [], laidByText := true, laidKinds := [.data, .listed, .data, .pinned], laidTests := true, laidLooks := .later }
def PatternBackCardSaid : Prop := Claim7.holds Tryd.pinned (.plain (OpenSpec.ofChange patternBackSpec)) patternBackCard

/-- THE SECOND FORM's CARD OF 'praxinoscopelaw07.PatternReads'. -/
def patternReadsUptoCard : Claim7 := { stood := { row := patternReadsUptoRow, standIns := [], harness := (true, "25b31638b12c7d6d4ea0ada67ff521f4ffe2d954d9e601298ad980fe57b734db"), looks := false }, kinds := [], alts := [], laidByText := true, laidKinds := [.data, .listed, .data, .pinned], laidTests := true, laidLooks := .later }
def PatternReadsUptoCardSaid : Prop := Claim7.holds Tryd.pinned (.plain (OpenSpec.upto patternReadsSpec)) patternReadsUptoCard

/-- THE SECOND FORM's CARD OF 'praxinoscopelaw07.PatternTells'. -/
def patternTellsUptoCard : Claim7 := { stood := { row := patternTellsUptoRow, standIns := [], harness := (true, "25b31638b12c7d6d4ea0ada67ff521f4ffe2d954d9e601298ad980fe57b734db"), looks := false }, kinds := [], alts := [], laidByText := true, laidKinds := [.data, .listed, .data, .pinned], laidTests := true, laidLooks := .later }
def PatternTellsUptoCardSaid : Prop := Claim7.holds Tryd.pinned (.plain (OpenSpec.upto patternTellsSpec)) patternTellsUptoCard

/-- THE SECOND FORM's CARD OF 'praxinoscopelaw07.PatternKnown'. -/
def patternKnownUptoCard : Claim7 := { stood := { row := patternKnownUptoRow, standIns := [], harness := (true, "25b31638b12c7d6d4ea0ada67ff521f4ffe2d954d9e601298ad980fe57b734db"), looks := false }, kinds := [], alts := [], laidByText := true, laidKinds := [.data, .listed, .data, .pinned], laidTests := true, laidLooks := .later }
def PatternKnownUptoCardSaid : Prop := Claim7.holds Tryd.pinned (.plain (OpenSpec.upto patternKnownSpec)) patternKnownUptoCard

/-- THE SECOND FORM's CARD OF 'praxinoscopelaw07.PatternSums'. -/
def patternSumsUptoCard : Claim7 := { stood := { row := patternSumsUptoRow, standIns := [], harness := (true, "25b31638b12c7d6d4ea0ada67ff521f4ffe2d954d9e601298ad980fe57b734db"), looks := false }, kinds := [], alts := [], laidByText := true, laidKinds := [.data, .listed, .data, .pinned], laidTests := true, laidLooks := .later }
def PatternSumsUptoCardSaid : Prop := Claim7.holds Tryd.pinned (.plain (OpenSpec.upto patternSumsSpec)) patternSumsUptoCard

/-- THE SECOND FORM's CARD OF 'praxinoscopelaw07.PatternNoughts'. -/
def patternNoughtsUptoCard : Claim7 := { stood := { row := patternNoughtsUptoRow, standIns := [], harness := (true, "25b31638b12c7d6d4ea0ada67ff521f4ffe2d954d9e601298ad980fe57b734db"), looks := false }, kinds := [], alts := [], laidByText := true, laidKinds := [.data, .listed, .data, .pinned], laidTests := true, laidLooks := .later }
def PatternNoughtsUptoCardSaid : Prop := Claim7.holds Tryd.pinned (.plain (OpenSpec.upto patternNoughtsSpec)) patternNoughtsUptoCard

/-- THE SECOND FORM's CARD OF 'praxinoscopelaw07.PatternBack'. -/
def patternBackUptoCard : Claim7 := { stood := { row := patternBackUptoRow, standIns := [], harness := (true, "25b31638b12c7d6d4ea0ada67ff521f4ffe2d954d9e601298ad980fe57b734db"), looks := false }, kinds := [], alts := [], laidByText := true, laidKinds := [.data, .listed, .data, .pinned], laidTests := true, laidLooks := .later }
def PatternBackUptoCardSaid : Prop := Claim7.holds Tryd.pinned (.plain (OpenSpec.upto patternBackSpec)) patternBackUptoCard
end Rows
end Go.Proofs.YteblkjmeaojegaaDoor
