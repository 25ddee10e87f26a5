/-
  Law 28: its arguments opened.
-/
import Derived.Test.YtmbnmhcfafgnaaaHeapPress
import Derived.Test.YtmbnmhcfafgnaaaOpen
import Derived.Lib.SmallJoins
namespace Go.Proofs.Ytmbnmhcfafgnaaa
open Go.RowKit Go.Mine Go.ChangeShapes Go.WideShapes Go.Joins

def Holder.ok (a : Holder) : Prop := (-9223372036854775808 ≤ a.id ∧ a.id ≤ 9223372036854775807) ∧ (-9223372036854775808 ≤ a.fr ∧ a.fr ≤ 9223372036854775807)
theorem Try.cellsHold28 : Try.prog.cellsOf 41 = 2 := by kernel_rfl
theorem Try.cellsInt28 : Try.prog.cellsOf 3 = 1 := by kernel_rfl

section
variable {H : Type} {enc : TypeId × Value → H} {w : World} {base : Nat} {spare : Nat → Bool} {held : Bool}

set_option maxRecDepth 100000 in
theorem trod_hold {n : Nat} {cs : List Value} {x : DataW H × List MemPlace} (h : DataW.trod enc Try.prog w base spare held n 41 cs = some x) : ∃ a : Holder, cs = a.cells ∧ Holder.ok a := by
  obtain ⟨hl, hf⟩ := trod_fields Try.underlying41 h
  rw [Try.cellsHold28] at hl
  match cs, hl with
  | [c0, c1], _ =>
    obtain ⟨n0, y0, h0⟩ := hf 0 3 0 rfl
    obtain ⟨n1, y1, h1⟩ := hf 1 3 1 rfl
    simp only [Try.cellsInt28, List.drop_zero, List.take_succ_cons, List.take_zero, List.drop_succ_cons] at h0 h1
    obtain ⟨a, e0, -, u0⟩ := DataW.trod_int Try.underlying3 h0
    obtain ⟨b, e1, -, u1⟩ := DataW.trod_int Try.underlying3 h1
    simp only [List.cons.injEq, and_true] at e0 e1
    subst e0 e1
    exact ⟨⟨a, b⟩, rfl, bounds_i64 u0, bounds_i64 u1⟩

set_option maxRecDepth 100000 in
theorem open_hold {r : Reach} {b0 : Nat} {v : Value} {d : DataW H} {p : List MemPlace} (hv : Value.okWide Try.prog w r b0 22 v) (h : DataW.Trod enc Try.prog w base spare held 22 v d p) :
    ∃ x : Value × List Holder, v = x.1 ∧ (Rd w 2 x.1 x.2.length (hcs x.2) ∧ (∀ a ∈ x.2, Holder.ok a) ∧ x.2.length ≤ maxLen) := by
  obtain ⟨xs, h1, h2, h3⟩ := open_rd Holder.len (by omega) Try.underlying22 Try.cellsHold28 (fun _ _ _ h => trod_hold h) hv h
  exact ⟨(v, xs), rfl, h1, h2, h3⟩
end
end Go.Proofs.Ytmbnmhcfafgnaaa
