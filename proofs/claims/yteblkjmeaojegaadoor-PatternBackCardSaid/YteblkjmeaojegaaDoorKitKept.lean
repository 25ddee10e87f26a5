/-
  Package praxinoscopekit: bytes that were lent are as they were.
-/
import Derived.Test.YteblkjmeaojegaaDoorKitBytes
namespace Go.Proofs.YteblkjmeaojegaaDoor
open Go.RowKit Go.Mine

set_option maxRecDepth 100000 in
set_option maxHeartbeats 2000000 in
theorem KeptBytes_any (w : World) (v u : Value) (base : Nat) (bs : List UInt8) (h1 : Lent w base 5 v bs) (h2 : Rd w 1 u bs.length (byteCells bs)) (hl : bs.length ≤ 1000000000) :
    Calls Tryd.prog 13 #[v, u] w fun e w' => e = .returned (.bool true) ∧ OnlyIn [] w w' := by
  have hrd := h1.rd
  obtain ⟨g, off, cap, rfl, hs⟩ := h1
  have h2' := h2
  obtain ⟨-, A, c, rfl, hc, hA⟩ := h2'
  clear hA
  have hcap : bs.length + 4 ≤ cap := by
    obtain ⟨g', off', cap', hv, _, _, h4⟩ := hs.form (by omega)
    injection hv with _ _ hcc
    omega
  have hwo : OnlyIn [] w ((w.alloc (.cells (byteCells [201, 202, 203, 204]).toArray 5)).drew) := ((OnlyIn.refl [] w).alloc _).drew
  have h4 : Rd w 1 (.slice (some ⟨g, off + bs.length, none⟩) 4 (cap - bs.length)) 4 (byteCells [201, 202, 203, 204]) := by
    refine ⟨rfl, _, _, rfl, by omega, fun _ => ⟨g, off + bs.length, rfl, fun j u hu => ?_⟩⟩
    have h5 : j < 4 := by have := (List.getElem?_eq_some_iff.1 hu).1; simpa [byteCells] using this
    have := hs.cell_at rfl (j := bs.length + j) (u := u) (by rw [byteCells_append, List.getElem?_append_right (by simp [byteCells])]; simpa [byteCells_length] using hu)
    rwa [← Nat.add_assoc] at this
  have h5 : Rd ((w.alloc (.cells (byteCells [201, 202, 203, 204]).toArray 5)).drew) 1 (.slice (some ⟨w.heap.size, 0, none⟩) 4 4) 4 (byteCells [201, 202, 203, 204]) := (Rd.lit w (byteCells [201, 202, 203, 204]) 5 4 rfl).drew
  have cv : ∀ {W : World} {v : Value} {l : List UInt8}, Rd W 1 v l.length (byteCells l) → (convert 22 9 v).run Tryd.prog W = .ok (.string (str l)) W := fun h => run_str h _ _ _ Tryd.underlying22 Tryd.underlying5 Tryd.underlying9
  have e1 := cv hrd.drew
  have e2 := cv h2.drew
  have e3 := cv (l := [201, 202, 203, 204]) h4.drew
  have e4 := cv (l := [201, 202, 203, 204]) (h4.cells fun p u hp => hwo.cell hp (by simp))
  have e5 := cv (l := [201, 202, 203, 204]) h5
  have hbb : ((str bs).toList == (str bs).toList) = true := by simp
  have hbc : ((str [201, 202, 203, 204]).toList == (str [201, 202, 203, 204]).toList) = true := by simp
  have hw1 : IntKind.i64.wrap ((bs.length : Int) + 4) = (bs.length : Int) + 4 := by rw [IntKind.wrap_i64]; omega
  have hw2 : decide ((bs.length : Int) + 4 ≤ (cap : Int)) = true := by simp; omega
  have hw3 : (0 : Int) ≤ (bs.length : Int) + 4 := by omega
  have hw4 : ((bs.length : Int) + 4).toNat = bs.length + 4 := by omega
  have hcn : ¬ cap = bs.length := by omega
  have e4' : (convert 22 9 (.slice (some ⟨g, off + bs.length, none⟩) 4 (cap - bs.length))).run Tryd.prog ((w.alloc (.cells #[.int .u8 201, .int .u8 202, .int .u8 203, .int .u8 204] 5)).drew) = .ok (.string (str [201, 202, 203, 204])) ((w.alloc (.cells #[.int .u8 201, .int .u8 202, .int .u8 203, .int .u8 204] 5)).drew) := e4
  have e5' : (convert 22 9 (.slice (some ⟨w.heap.size, 0, none⟩) 4 4)).run Tryd.prog ((w.alloc (.cells #[.int .u8 201, .int .u8 202, .int .u8 203, .int .u8 204] 5)).drew) = .ok (.string (str [201, 202, 203, 204])) ((w.alloc (.cells #[.int .u8 201, .int .u8 202, .int .u8 203, .int .u8 204] 5)).drew) := e5
  clear hrd h2 hs h4 h5 hwo cv e4 e5
  go_enter Tryd.func13, Tryd.ntmps13
  go_wp2_with fail
  go_region
  all_goals
    go_wp2
    go_ret
    exact ⟨rfl, ((OnlyIn.refl _ _).alloc _).drew⟩
end Go.Proofs.YteblkjmeaojegaaDoor
