/-
  Law 24: its arguments opened.
-/
import Derived.Test.YtcgbafdagckgcaaOutbox
import Derived.Test.YtcgbafdagckgcaaOpen
import Derived.Lib.SmallJoins
namespace Go.Proofs.Ytcgbafdagckgcaa
open Go.RowKit Go.Mine Go.ChangeShapes Go.WideShapes Go.Joins

def ok64 (n : Int) : Prop := -9223372036854775808 ≤ n ∧ n ≤ 9223372036854775807
structure Act24 where
  kind : Int
  i : Item
def Act24.cells (a : Act24) : List Value := .int .i64 a.kind :: a.i.cells
theorem Act24.len (a : Act24) : a.cells.length = 5 := rfl
def Act24.ok (a : Act24) : Prop := ok64 a.kind

theorem Try.cellsItem : Try.prog.cellsOf 30 = 4 := by kernel_rfl
theorem Try.cellsAct24 : Try.prog.cellsOf 41 = 5 := by kernel_rfl
theorem Try.cellsInt : Try.prog.cellsOf 3 = 1 := by kernel_rfl

section
variable {H : Type} {enc : TypeId × Value → H} {w : World} {base : Nat} {spare : Nat → Bool} {held : Bool}

set_option maxRecDepth 100000 in
theorem trod_item {n : Nat} {cs : List Value} {x : DataW H × List MemPlace} (h : DataW.trod enc Try.prog w base spare held n 30 cs = some x) : ∃ i : Item, cs = i.cells := by
  obtain ⟨hl, hf⟩ := trod_fields Try.underlying30 h
  rw [Try.cellsItem] at hl
  match cs, hl with
  | [c0, c1, c2, c3], _ =>
    obtain ⟨n0, y0, h0⟩ := hf 0 3 0 rfl
    obtain ⟨n1, y1, h1⟩ := hf 1 3 1 rfl
    obtain ⟨n2, y2, h2⟩ := hf 2 3 2 rfl
    obtain ⟨n3, y3, h3⟩ := hf 3 3 3 rfl
    simp only [Try.cellsInt, List.drop_zero, List.take_succ_cons, List.take_zero, List.drop_succ_cons] at h0 h1 h2 h3
    obtain ⟨a, e0, -, -⟩ := DataW.trod_int Try.underlying3 h0
    obtain ⟨b, e1, -, -⟩ := DataW.trod_int Try.underlying3 h1
    obtain ⟨c, e2, -, -⟩ := DataW.trod_int Try.underlying3 h2
    obtain ⟨d, e3, -, -⟩ := DataW.trod_int Try.underlying3 h3
    simp only [List.cons.injEq, and_true] at e0 e1 e2 e3
    subst e0 e1 e2 e3
    exact ⟨⟨a, b, c, d⟩, rfl⟩

set_option maxRecDepth 100000 in
theorem trod_act24 {n : Nat} {cs : List Value} {x : DataW H × List MemPlace} (h : DataW.trod enc Try.prog w base spare held n 41 cs = some x) : ∃ a : Act24, cs = a.cells ∧ a.ok := by
  obtain ⟨hl, hf⟩ := trod_fields Try.underlying41 h
  rw [Try.cellsAct24] at hl
  match cs, hl with
  | c0 :: cs, hl =>
    obtain ⟨n0, y0, h0⟩ := hf 0 3 0 rfl
    obtain ⟨n1, y1, h1⟩ := hf 1 30 1 rfl
    simp only [Try.cellsInt, Try.cellsItem, List.drop_zero, List.take_succ_cons, List.take_zero, List.drop_succ_cons] at h0 h1
    obtain ⟨a, e0, -, hw⟩ := DataW.trod_int Try.underlying3 h0
    obtain ⟨i, e1⟩ := trod_item h1
    simp only [List.cons.injEq, and_true] at e0
    subst e0
    rw [List.take_of_length_le (by simp at hl; omega)] at e1
    subst e1
    exact ⟨⟨a, i⟩, rfl, bounds_i64 hw⟩

theorem open_item24 {r : Reach} {b0 : Nat} {v : Value} {d : DataW H} {p : List MemPlace} (hv : Value.okWide Try.prog w r b0 30 v) (h : DataW.Trod enc Try.prog w base spare held 30 v d p) :
    ∃ i : Item, v = .agg #[.int .i64 i.f, .int .i64 i.g, .int .i64 i.t, .int .i64 i.y] ∧ True := by
  obtain ⟨cs, rfl, hsz⟩ := okWide_struct Try.underlying30 hv
  obtain ⟨n, hn⟩ := h
  obtain ⟨i, hi⟩ := trod_item hn
  refine ⟨i, ?_, trivial⟩
  have : cs = i.cells.toArray := by
    apply Array.ext'
    simpa [Value.cells] using hi
  rw [this]
  rfl

theorem open_acts24 {r : Reach} {b0 : Nat} {v : Value} {d : DataW H} {p : List MemPlace} (hv : Value.okWide Try.prog w r b0 36 v) (h : DataW.Trod enc Try.prog w base spare held 36 v d p) :
    ∃ x : Value × List Act24, v = x.1 ∧ (Rd w 5 x.1 x.2.length (x.2.flatMap Act24.cells) ∧ (∀ a ∈ x.2, a.ok) ∧ x.2.length ≤ maxLen) := by
  obtain ⟨xs, h1, h2, h3⟩ := open_rd Act24.len (by omega) Try.underlying36 Try.cellsAct24 (fun _ _ _ h => trod_act24 h) hv h
  exact ⟨(v, xs), rfl, h1, h2, h3⟩
end
end Go.Proofs.Ytcgbafdagckgcaa
