/-
  Arguments opened: numbers.
-/
import Derived.Test.YtmbnmhcfafgnaaaInts
import Derived.Test.YtmbnmhcfafgnaaaRows
import Derived.Test.YtmbnmhcfafgnaaaOpen
import Derived.Lib.SmallJoins
namespace Go.Mine
open Go.RowKit
theorem flat_ints (l : List Int) : (l.flatMap fun x => [Value.int .i64 x]) = intCells l := by
  induction l with
  | nil => rfl
  | cons b bs ih => rw [List.flatMap_cons, ih]; rfl
end Go.Mine
namespace Go.Proofs.Ytmbnmhcfafgnaaa
open Go.RowKit Go.Mine Go.ChangeShapes Go.WideShapes Go.Joins
theorem Try.cellsInt : Try.prog.cellsOf 3 = 1 := by kernel_rfl
section
variable {H : Type} {enc : TypeId × Value → H} {w : World} {base : Nat} {spare : Nat → Bool} {held : Bool}
set_option maxRecDepth 100000 in
theorem trod_int1 {n : Nat} {cs : List Value} {x : DataW H × List MemPlace} (h : DataW.trod enc Try.prog w base spare held n 3 cs = some x) : ∃ b : Int, cs = [.int .i64 b] ∧ (-9223372036854775808 ≤ b ∧ b ≤ 9223372036854775807) := by
  obtain ⟨n, rfl, -, hw⟩ := DataW.trod_int Try.underlying3 h
  exact ⟨n, rfl, bounds_i64 hw⟩
set_option maxRecDepth 100000 in
theorem open_ints {r : Reach} {b0 : Nat} {v : Value} {d : DataW H} {p : List MemPlace} (hv : Value.okWide Try.prog w r b0 27 v) (h : DataW.Trod enc Try.prog w base spare held 27 v d p) :
    ∃ x : Value × List Int, v = x.1 ∧ (Rd w 1 x.1 x.2.length (intCells x.2) ∧ (∀ z ∈ x.2, -9223372036854775808 ≤ z ∧ z ≤ 9223372036854775807) ∧ x.2.length ≤ maxLen) := by
  obtain ⟨xs, h1, h2, h3⟩ := open_rd (f := fun b : Int => [Value.int .i64 b]) (Q := fun b => -9223372036854775808 ≤ b ∧ b ≤ 9223372036854775807) (fun _ => rfl) (Nat.le_refl 1) Try.underlying27 Try.cellsInt (fun _ _ _ h => trod_int1 h) hv h
  rw [flat_ints] at h1
  exact ⟨(v, xs), rfl, h1, h2, h3⟩
end
end Go.Proofs.Ytmbnmhcfafgnaaa
