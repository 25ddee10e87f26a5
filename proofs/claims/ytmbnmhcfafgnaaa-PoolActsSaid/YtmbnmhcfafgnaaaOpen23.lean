/-
  Law 23: its arguments opened.
-/
import Derived.Test.YtmbnmhcfafgnaaaHeapPool
import Derived.Test.YtmbnmhcfafgnaaaOpen
import Derived.Lib.SmallJoins
namespace Go.Proofs.Ytmbnmhcfafgnaaa
open Go.RowKit Go.Mine Go.ChangeShapes Go.WideShapes Go.Joins

def ok64' (n : Int) : Prop := -9223372036854775808 ≤ n ∧ n ≤ 9223372036854775807
structure Act23 where
  kind : Int
  frame : Int
  owner : Int
  n : Int
def Act23.cells (a : Act23) : List Value := [.int .i64 a.kind, .int .i64 a.frame, .int .i64 a.owner, .int .i64 a.n]
def Act23.val (a : Act23) : Value := .agg #[.int .i64 a.kind, .int .i64 a.frame, .int .i64 a.owner, .int .i64 a.n]
theorem Act23.len (a : Act23) : a.cells.length = 4 := rfl
def Act23.ok (a : Act23) : Prop := ok64' a.kind ∧ ok64' a.frame ∧ ok64' a.owner ∧ ok64' a.n
theorem Try.cellsAct23 : Try.prog.cellsOf 60 = 4 := by kernel_rfl
theorem Try.cellsInt23 : Try.prog.cellsOf 3 = 1 := by kernel_rfl

section
variable {H : Type} {enc : TypeId × Value → H} {w : World} {base : Nat} {spare : Nat → Bool} {held : Bool}

set_option maxRecDepth 100000 in
theorem trod_act23 {n : Nat} {cs : List Value} {x : DataW H × List MemPlace} (h : DataW.trod enc Try.prog w base spare held n 60 cs = some x) : ∃ a : Act23, cs = a.cells ∧ a.ok := by
  obtain ⟨hl, hf⟩ := trod_fields Try.underlying60 h
  rw [Try.cellsAct23] at hl
  match cs, hl with
  | [c0, c1, c2, c3], _ =>
    obtain ⟨n0, y0, h0⟩ := hf 0 3 0 rfl
    obtain ⟨n1, y1, h1⟩ := hf 1 3 1 rfl
    obtain ⟨n2, y2, h2⟩ := hf 2 3 2 rfl
    obtain ⟨n3, y3, h3⟩ := hf 3 3 3 rfl
    simp only [Try.cellsInt23, List.drop_zero, List.take_succ_cons, List.take_zero, List.drop_succ_cons] at h0 h1 h2 h3
    obtain ⟨a, e0, -, u0⟩ := DataW.trod_int Try.underlying3 h0
    obtain ⟨b, e1, -, u1⟩ := DataW.trod_int Try.underlying3 h1
    obtain ⟨c, e2, -, u2⟩ := DataW.trod_int Try.underlying3 h2
    obtain ⟨d, e3, -, u3⟩ := DataW.trod_int Try.underlying3 h3
    simp only [List.cons.injEq, and_true] at e0 e1 e2 e3
    subst e0 e1 e2 e3
    exact ⟨⟨a, b, c, d⟩, rfl, bounds_i64 u0, bounds_i64 u1, bounds_i64 u2, bounds_i64 u3⟩

set_option maxRecDepth 100000 in
theorem open_acts23 {r : Reach} {b0 : Nat} {v : Value} {d : DataW H} {p : List MemPlace} (hv : Value.okWide Try.prog w r b0 58 v) (h : DataW.Trod enc Try.prog w base spare held 58 v d p) :
    ∃ x : Value × List Act23, v = x.1 ∧ (Rd w 4 x.1 x.2.length (x.2.flatMap Act23.cells) ∧ (∀ a ∈ x.2, a.ok) ∧ x.2.length ≤ maxLen) := by
  obtain ⟨xs, h1, h2, h3⟩ := open_rd Act23.len (by omega) Try.underlying58 Try.cellsAct23 (fun _ _ _ h => trod_act23 h) hv h
  exact ⟨(v, xs), rfl, h1, h2, h3⟩

set_option maxRecDepth 100000 in
theorem open_act23 {r : Reach} {b0 : Nat} {v : Value} {d : DataW H} {p : List MemPlace} (hv : Value.okWide Try.prog w r b0 60 v) (h : DataW.Trod enc Try.prog w base spare held 60 v d p) :
    ∃ a : Act23, v = a.val ∧ a.ok := by
  obtain ⟨v0, v1, v2, v3, y0, y1, y2, y3, n, rfl, -, -, h0, h1, h2, h3⟩ := open_agg4 Try.underlying60 (by kernel_rfl) Try.cellsAct23 hv h
  obtain ⟨a, e0, -, u0⟩ := DataW.trod_int Try.underlying3 h0
  obtain ⟨b, e1, -, u1⟩ := DataW.trod_int Try.underlying3 h1
  obtain ⟨c, e2, -, u2⟩ := DataW.trod_int Try.underlying3 h2
  obtain ⟨d, e3, -, u3⟩ := DataW.trod_int Try.underlying3 h3
  simp only [List.cons.injEq, and_true] at e0 e1 e2 e3
  subst e0 e1 e2 e3
  exact ⟨⟨a, b, c, d⟩, rfl, bounds_i64 u0, bounds_i64 u1, bounds_i64 u2, bounds_i64 u3⟩
end
end Go.Proofs.Ytmbnmhcfafgnaaa
