/-
  Pools of frames: whose they are, and what is in them. Plain.
-/
import Derived.Test.YtmbnmhcfafgnaaaHeapPool
import Derived.Test.YtmbnmhcfafgnaaaMapInt
import Derived.Test.YtmbnmhcfafgnaaaBitsSpec
namespace Go.Mine
open Go.RowKit

structure Fr where
  owner : Int
  handles : Int
  data : List UInt8
def Fr.empty : Fr := ⟨0, 0, List.replicate 152064 0⟩
def frAt (fs : List Fr) (i : Nat) : Fr := fs.getD i Fr.empty
theorem frAt_eq {fs : List Fr} {i : Nat} (h : i < fs.length) : frAt fs i = fs[i]'h := by unfold frAt; rw [List.getD_eq_getElem?_getD, List.getElem?_eq_getElem h]; rfl
theorem frAt_get {fs : List Fr} {i : Nat} (h : i < fs.length) : fs[i]? = some (frAt fs i) := by rw [frAt_eq h, List.getElem?_eq_getElem h]
theorem frAt_set_same {fs : List Fr} {i : Nat} (h : i < fs.length) (f : Fr) : frAt (fs.set i f) i = f := by rw [frAt_eq (by simpa using h)]; simp
theorem frAt_set_ne {fs : List Fr} {i j : Nat} (h : i ≠ j) (f : Fr) : frAt (fs.set i f) j = frAt fs j := by unfold frAt; rw [List.getD_eq_getElem?_getD, List.getD_eq_getElem?_getD, List.getElem?_set_ne h]
/-- How many are an owner's. -/
def cntO (fs : List Fr) (o : Int) : Nat := fs.countP fun f => f.owner == o
theorem cntO_le (fs : List Fr) (o : Int) : cntO fs o ≤ fs.length := List.countP_le_length
theorem cntO_set (fs : List Fr) {i : Nat} (h : i < fs.length) (f : Fr) (o : Int) : cntO (fs.set i f) o + (if (frAt fs i).owner = o then 1 else 0) = cntO fs o + (if f.owner = o then 1 else 0) := by
  rw [frAt_eq h]
  unfold cntO
  induction fs generalizing i with
  | nil => simp at h
  | cons x fs ih =>
    cases i with
    | zero =>
      simp only [List.set_cons_zero, List.countP_cons, List.getElem_cons_zero, beq_iff_eq]
      omega
    | succ i =>
      have := ih (i := i) (by simpa using h)
      simp only [List.set_cons_succ, List.countP_cons, List.getElem_cons_succ, beq_iff_eq] at this ⊢
      omega
theorem cntO_pos {fs : List Fr} {i : Nat} (h : i < fs.length) {o : Int} (ho : (frAt fs i).owner = o) : 0 < cntO fs o := by
  unfold cntO
  rw [List.countP_pos_iff]
  exact ⟨fs[i]'h, List.getElem_mem h, by rw [frAt_eq h] at ho; simp [ho]⟩
/-- What the map tells. -/
def heldF (fs : List Fr) : Int → Option Int := fun o => if 0 < o ∧ 0 < cntO fs o then some (cntO fs o : Int) else none
def heldN (fs : List Fr) (o : Int) : Int := if 0 < o then (cntO fs o : Int) else 0
theorem heldF_getD (fs : List Fr) (o : Int) : (heldF fs o).getD 0 = heldN fs o := by
  unfold heldF heldN
  by_cases h : 0 < o
  · by_cases h2 : 0 < cntO fs o
    · rw [if_pos ⟨h, h2⟩, if_pos h]; rfl
    · rw [if_neg (fun h3 => h2 h3.2), if_pos h]
      show (0 : Int) = _
      omega
  · rw [if_neg (fun h3 => h h3.1), if_neg h]; rfl
theorem heldN_le (fs : List Fr) (o : Int) : 0 ≤ heldN fs o ∧ heldN fs o ≤ fs.length := by
  have := cntO_le fs o
  unfold heldN
  split <;> omega
/-- The free ones. -/
def freeI (fs : List Fr) : List Nat := (List.range fs.length).filter fun i => (frAt fs i).owner == 0
theorem mem_freeI {fs : List Fr} {i : Nat} : i ∈ freeI fs ↔ i < fs.length ∧ (frAt fs i).owner = 0 := by
  unfold freeI
  rw [List.mem_filter, List.mem_range]
  simp
theorem freeI_nodup (fs : List Fr) : (freeI fs).Nodup := List.Pairwise.filter _ List.nodup_range
theorem freeI_le (fs : List Fr) : (freeI fs).length ≤ fs.length := by
  have := List.length_filter_le (fun i => (frAt fs i).owner == 0) (List.range fs.length)
  rw [List.length_range] at this
  exact this
theorem freeI_take {fs : List Fr} {i : Nat} (h : i < fs.length) (h0 : (frAt fs i).owner = 0) {f : Fr} (hf : f.owner ≠ 0) : (freeI fs).Perm (i :: freeI (fs.set i f)) := by
  refine (List.perm_ext_iff_of_nodup (freeI_nodup fs) (List.nodup_cons.2 ⟨fun hm => ?_, freeI_nodup _⟩)).2 fun j => ?_
  · have := (mem_freeI.1 hm).2
    rw [frAt_set_same h] at this
    exact hf this
  · rw [List.mem_cons, mem_freeI, mem_freeI, List.length_set]
    by_cases e : i = j
    · subst e
      simp [h, h0]
    · rw [frAt_set_ne e]
      constructor
      · exact fun hh => .inr hh
      · rintro (hh | hh)
        · exact absurd hh.symm e
        · exact hh
theorem freeI_give {fs : List Fr} {i : Nat} (h : i < fs.length) (h0 : (frAt fs i).owner ≠ 0) {f : Fr} (hf : f.owner = 0) : (freeI (fs.set i f)).Perm (freeI fs ++ [i]) := by
  have h1 := freeI_take (fs := fs.set i f) (i := i) (by simpa using h) (by rw [frAt_set_same h]; exact hf) (f := fs[i]'h) (by rw [← frAt_eq h]; exact h0)
  rw [List.set_set, List.set_getElem_self] at h1
  exact h1.trans (List.perm_append_comm (l₁ := [i]))
theorem freeI_cnt (fs : List Fr) : (freeI fs).length = cntO fs 0 := by
  unfold freeI cntO
  rw [← List.countP_eq_length_filter]
  have : fs = (List.range fs.length).map (frAt fs) := by
    apply List.ext_getElem (by simp)
    intro i h1 h2
    simp [frAt_eq h1]
  conv => rhs; rw [this]
  rw [List.countP_map]
  rfl
theorem heldF_take {fs : List Fr} {i : Nat} (h : i < fs.length) (h0 : (frAt fs i).owner = 0) {f : Fr} {o : Int} (hf : f.owner = o) (ho : 0 < o) (x : Int) : heldF (fs.set i f) x = tellI (heldF fs) o (heldN fs o + 1) x := by
  have hc := cntO_set fs h f x
  rw [h0, hf] at hc
  unfold tellI heldF heldN
  by_cases hx : x = o
  · subst hx
    rw [if_pos rfl] at hc
    rw [if_neg (by omega)] at hc
    rw [if_pos ⟨ho, by omega⟩, if_pos rfl, if_pos ho]
    congr 1
    omega
  · have h2 : (if o = x then 1 else 0 : Nat) = 0 := if_neg (fun e => hx e.symm)
    rw [h2] at hc
    rw [if_neg hx]
    by_cases h3 : 0 < x
    · rw [if_neg (by omega)] at hc
      rw [show cntO (fs.set i f) x = cntO fs x by omega]
    · rw [if_neg (fun e => h3 e.1), if_neg (fun e => h3 e.1)]
theorem heldF_give {fs : List Fr} {i : Nat} (h : i < fs.length) {o : Int} (h0 : (frAt fs i).owner = o) (ho : 0 < o) {f : Fr} (hf : f.owner = 0) (x : Int) :
    heldF (fs.set i f) x = if heldN fs o = 1 then untell (heldF fs) o x else tellI (heldF fs) o (heldN fs o - 1) x := by
  have hc := cntO_set fs h f x
  have hp := cntO_pos h h0
  rw [h0, hf] at hc
  have hn : heldN fs o = (cntO fs o : Int) := by unfold heldN; rw [if_pos ho]
  rw [hn]
  unfold untell tellI heldF
  by_cases hx : x = o
  · subst hx
    rw [if_pos rfl, if_neg (by omega)] at hc
    rw [if_pos rfl, if_pos rfl]
    by_cases h1 : (cntO fs x : Int) = 1
    · rw [if_pos h1, if_neg (by omega)]
    · rw [if_neg h1, if_pos ⟨ho, by omega⟩]
      congr 1
      omega
  · have h2 : (if o = x then 1 else 0 : Nat) = 0 := if_neg (fun e => hx e.symm)
    rw [h2] at hc
    rw [if_neg hx, if_neg hx]
    have : (if 0 < x ∧ 0 < cntO (fs.set i f) x then some ((cntO (fs.set i f) x : Nat) : Int) else none) = if 0 < x ∧ 0 < cntO fs x then some ((cntO fs x : Nat) : Int) else none := by
      by_cases h3 : 0 < x
      · rw [if_neg (by omega)] at hc
        rw [show cntO (fs.set i f) x = cntO fs x by omega]
      · rw [if_neg (fun e => h3 e.1), if_neg (fun e => h3 e.1)]
    by_cases h1 : (cntO fs o : Int) = 1
    · rw [if_pos h1]; exact this
    · rw [if_neg h1]; exact this
/-- Why a frame is not an owner's. -/
def whyF (fs : List Fr) (n o : Int) : Int := if 0 ≤ n ∧ n < fs.length ∧ (frAt fs n.toNat).owner ≠ 0 then (if (frAt fs n.toNat).owner = o then 0 else 19) else 18
theorem whyF_ok {fs : List Fr} {n o : Int} (h : whyF fs n o = 0) : ∃ i : Nat, n = (i : Int) ∧ i < fs.length ∧ (frAt fs i).owner = o ∧ o ≠ 0 := by
  unfold whyF at h
  split at h
  · rename_i h1
    split at h
    · rename_i h2
      exact ⟨n.toNat, by omega, by omega, h2, by rw [← h2]; exact h1.2.2⟩
    · cases h
  · cases h
end Go.Mine
