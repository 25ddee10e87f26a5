/-
  Arguments opened: a byte.
-/
import Derived.Test.YtejomjkkjcnfnaaBitsSpec
import Derived.Test.YtejomjkkjcnfnaaRows
import Derived.Test.YtejomjkkjcnfnaaOpen
import Derived.Lib.SmallJoins
namespace Go.Proofs.Ytejomjkkjcnfnaa
open Go.RowKit Go.Mine Go.ChangeShapes Go.WideShapes Go.Joins
section
variable {H : Type} {enc : TypeId × Value → H} {w : World} {base : Nat} {spare : Nat → Bool} {held : Bool}
theorem open_u8 {r : Reach} {b0 : Nat} {v : Value} {d : DataW H} {p : List MemPlace} (hv : Value.okWide Try.prog w r b0 5 v) (h : DataW.Trod enc Try.prog w base spare held 5 v d p) :
    ∃ x : UInt8, v = .int .u8 (x.toNat : Int) ∧ True := by
  obtain ⟨a, rfl, -, -, hw⟩ := open_int Try.underlying5 hv h
  have hb : 0 ≤ a ∧ a ≤ 255 := by
    have := hw
    simp [Lit.wf] at this
    exact this
  refine ⟨UInt8.ofNat a.toNat, ?_, trivial⟩
  rw [UInt8.toNat_ofNat_of_lt' (by simp; omega)]
  congr 1
  omega
end
end Go.Proofs.Ytejomjkkjcnfnaa
