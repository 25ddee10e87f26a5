/-
  Law 26: its arguments opened.
-/
import Derived.Test.YtoknnplfdhffnaaTab
import Derived.Test.YtoknnplfdhffnaaOpen
import Derived.Lib.SmallJoins
namespace Go.Proofs.Ytoknnplfdhffnaa
open Go.RowKit Go.Mine Go.ChangeShapes Go.WideShapes Go.Joins

def ok64 (n : Int) : Prop := -9223372036854775808 ≤ n ∧ n ≤ 9223372036854775807
structure Act26 where
  kind : Int
  id : Int
  cause : Int
def Act26.cells (a : Act26) : List Value := [.int .i64 a.kind, .int .i64 a.id, .int .i64 a.cause]
theorem Act26.len (a : Act26) : a.cells.length = 3 := rfl
def Act26.ok (a : Act26) : Prop := ok64 a.kind ∧ ok64 a.id ∧ ok64 a.cause

theorem Try.cellsAct26 : Try.prog.cellsOf 31 = 3 := by kernel_rfl
theorem Try.cellsInt26 : Try.prog.cellsOf 3 = 1 := by kernel_rfl
theorem Try.cellsErrno26 : Try.prog.cellsOf 26 = 1 := by kernel_rfl

section
variable {H : Type} {enc : TypeId × Value → H} {w : World} {base : Nat} {spare : Nat → Bool} {held : Bool}

set_option maxRecDepth 100000 in
theorem trod_act26 {n : Nat} {cs : List Value} {x : DataW H × List MemPlace} (h : DataW.trod enc Try.prog w base spare held n 31 cs = some x) : ∃ a : Act26, cs = a.cells ∧ a.ok := by
  obtain ⟨hl, hf⟩ := trod_fields Try.underlying31 h
  rw [Try.cellsAct26] at hl
  match cs, hl with
  | [c0, c1, c2], _ =>
    obtain ⟨n0, y0, h0⟩ := hf 0 3 0 rfl
    obtain ⟨n1, y1, h1⟩ := hf 1 3 1 rfl
    obtain ⟨n2, y2, h2⟩ := hf 2 26 2 rfl
    simp only [Try.cellsInt26, Try.cellsErrno26, List.drop_zero, List.take_succ_cons, List.take_zero, List.drop_succ_cons] at h0 h1 h2
    obtain ⟨a, e0, -, u0⟩ := DataW.trod_int Try.underlying3 h0
    obtain ⟨b, e1, -, u1⟩ := DataW.trod_int Try.underlying3 h1
    obtain ⟨c, e2, -, u2⟩ := DataW.trod_int Try.underlying26 h2
    simp only [List.cons.injEq, and_true] at e0 e1 e2
    subst e0 e1 e2
    exact ⟨⟨a, b, c⟩, rfl, bounds_i64 u0, bounds_i64 u1, bounds_i64 u2⟩

theorem open_acts26 {r : Reach} {b0 : Nat} {v : Value} {d : DataW H} {p : List MemPlace} (hv : Value.okWide Try.prog w r b0 22 v) (h : DataW.Trod enc Try.prog w base spare held 22 v d p) :
    ∃ x : Value × List Act26, v = x.1 ∧ (Rd w 3 x.1 x.2.length (x.2.flatMap Act26.cells) ∧ (∀ a ∈ x.2, a.ok) ∧ x.2.length ≤ maxLen) := by
  obtain ⟨xs, h1, h2, h3⟩ := open_rd Act26.len (by omega) Try.underlying22 Try.cellsAct26 (fun _ _ _ h => trod_act26 h) hv h
  exact ⟨(v, xs), rfl, h1, h2, h3⟩
end
end Go.Proofs.Ytoknnplfdhffnaa
