/-
  Arguments opened: bytes.
-/
import Derived.Test.YteblkjmeaojegaaDoorBitsSpec
import Derived.Test.YteblkjmeaojegaaDoorRows
import Derived.Test.YteblkjmeaojegaaDoorOpen
import Derived.Lib.SmallJoins
namespace Go.Mine
open Go.RowKit
theorem flat_bytes (bs : List UInt8) : (bs.flatMap fun b => [Value.int .u8 (b.toNat : Int)]) = byteCells bs := by
  induction bs with
  | nil => rfl
  | cons b bs ih => rw [List.flatMap_cons, ih]; rfl
end Go.Mine
namespace Go.Proofs.YteblkjmeaojegaaDoor
open Go.RowKit Go.Mine Go.ChangeShapes Go.WideShapes Go.Joins
theorem Tryd.cellsU8 : Tryd.prog.cellsOf 5 = 1 := by kernel_rfl
section
variable {H : Type} {enc : TypeId × Value → H} {w : World} {base : Nat} {spare : Nat → Bool} {held : Bool}
set_option maxRecDepth 100000 in
theorem trod_byte {n : Nat} {cs : List Value} {x : DataW H × List MemPlace} (h : DataW.trod enc Tryd.prog w base spare held n 5 cs = some x) : ∃ b : UInt8, cs = [.int .u8 (b.toNat : Int)] ∧ True := by
  obtain ⟨n, rfl, -, hw⟩ := DataW.trod_int Tryd.underlying5 h
  have hb : 0 ≤ n ∧ n ≤ 255 := by
    have := hw
    simp [Lit.wf] at this
    exact this
  refine ⟨UInt8.ofNat n.toNat, ?_, trivial⟩
  rw [UInt8.toNat_ofNat_of_lt' (by simp; omega)]
  congr 2
  omega
set_option maxRecDepth 100000 in
theorem open_bytes {r : Reach} {b0 : Nat} {v : Value} {d : DataW H} {p : List MemPlace} (hv : Value.okWide Tryd.prog w r b0 22 v) (h : DataW.Trod enc Tryd.prog w base spare held 22 v d p) :
    ∃ x : Value × List UInt8, v = x.1 ∧ (Rd w 1 x.1 x.2.length (byteCells x.2) ∧ x.2.length ≤ maxLen) := by
  obtain ⟨xs, h1, _, h3⟩ := open_rd (f := fun b : UInt8 => [Value.int .u8 (b.toNat : Int)]) (Q := fun _ => True) (fun _ => rfl) (Nat.le_refl 1) Tryd.underlying22 Tryd.cellsU8 (fun _ _ _ h => trod_byte h) hv h
  rw [flat_bytes] at h1
  exact ⟨(v, xs), rfl, h1, h3⟩
end
end Go.Proofs.YteblkjmeaojegaaDoor
