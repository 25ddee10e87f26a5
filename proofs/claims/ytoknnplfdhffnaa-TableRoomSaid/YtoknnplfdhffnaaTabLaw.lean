/-
  Tables: what counts as live. Plain.
-/
import Derived.Test.YtoknnplfdhffnaaTabSpec
namespace Go.Mine
open Go.RowKit
theorem liveTo_prefix {cs : List Int} {k m : Nat} (h : k ≤ m) : liveTo cs k <+: liveTo cs m := by
  induction m with
  | zero => obtain rfl : k = 0 := by omega
            exact List.prefix_rfl
  | succ m ih =>
    by_cases hk : k = m + 1
    · subst hk; exact List.prefix_rfl
    · rw [liveTo]
      exact (ih (by omega)).trans (List.prefix_append _ _)
theorem liveOf_at {cs : List Int} {k : Nat} (hk : k < cs.length) (h : cs.getD k 0 = 0) : (liveOf cs)[(liveTo cs k).length]? = some ((k : Int) + 1) := by
  obtain ⟨t, ht⟩ := liveTo_prefix (cs := cs) (show k + 1 ≤ cs.length by omega)
  rw [liveTo_yes h] at ht
  unfold liveOf
  rw [← ht, List.append_assoc, List.getElem?_append_right (Nat.le_refl _), Nat.sub_self]
  rfl
theorem liveTo_count (cs : List Int) : ∀ k, k ≤ cs.length → (liveTo cs k).length = (cs.take k).count 0
  | 0, _ => by simp [liveTo]
  | k + 1, h => by
    have ih := liveTo_count cs k (by omega)
    rw [liveTo, List.length_append, ih, List.take_succ_eq_append_getElem (by omega), List.count_append]
    have : cs.getD k 0 = cs[k]'(by omega) := by rw [List.getD_eq_getElem?_getD, List.getElem?_eq_getElem (by omega)]; rfl
    rw [this]
    by_cases h0 : cs[k]'(by omega) = 0
    · rw [if_pos h0, h0]; simp
    · rw [if_neg h0]; simp [h0]
theorem liveOf_count (cs : List Int) : (liveOf cs).length = cs.count 0 := by
  unfold liveOf
  rw [liveTo_count cs _ (Nat.le_refl _), List.take_length]
theorem liveOf_more_length (cs : List Int) : (liveOf (cs ++ [0])).length = (liveOf cs).length + 1 := by rw [liveOf_more]; simp
theorem liveOf_end {cs : List Int} {k : Nat} {c : Int} (hk : k < cs.length) (h0 : cs.getD k 0 = 0) (hc : c ≠ 0) : (liveOf (cs.set k c)).length + 1 = (liveOf cs).length := by
  have h1 : cs[k] = 0 := by rw [← h0, List.getD_eq_getElem?_getD, List.getElem?_eq_getElem hk]; rfl
  have hp : 0 < cs.count 0 := List.count_pos_iff.2 (h1 ▸ List.getElem_mem hk)
  rw [liveOf_count, liveOf_count, List.count_set hk, h1]
  simp [hc]
  omega
theorem liveOf_zeros (n : Nat) : (liveOf (List.replicate n 0)).length = n := by rw [liveOf_count]; simp
theorem getD_set_same {cs : List Int} {k : Nat} (c : Int) (hk : k < cs.length) : (cs.set k c).getD k 0 = c := by
  rw [List.getD_eq_getElem?_getD, List.getElem?_set_self hk]; rfl
theorem getD_set_ne {cs : List Int} {k j : Nat} (c : Int) (h : k ≠ j) : (cs.set k c).getD j 0 = cs.getD j 0 := by
  rw [List.getD_eq_getElem?_getD, List.getD_eq_getElem?_getD, List.getElem?_set_ne h]
/-- What End answers, and the causes behind it. -/
def endE (cs : List Int) (x c : Int) : Int := if c = 0 then 2 else match causeOf cs x with
  | none => 18
  | some d => if d = 0 then 0 else 19
def endS (cs : List Int) (x c : Int) : List Int := if endE cs x c = 0 then cs.set (x - 1).toNat c else cs
theorem endS_length (cs : List Int) (x c : Int) : (endS cs x c).length = cs.length := by unfold endS; split <;> simp
theorem endE_zero (cs : List Int) (x : Int) : endE cs x 0 = 2 := by simp [endE]
theorem endE_out {cs : List Int} {x c : Int} (hc : c ≠ 0) (h : ¬ (1 ≤ x ∧ x ≤ cs.length)) : endE cs x c = 18 := by
  unfold endE causeOf; rw [if_neg hc, if_neg h]
theorem endE_in {cs : List Int} {k : Nat} {c : Int} (hc : c ≠ 0) (hk : k < cs.length) : endE cs ((k : Int) + 1) c = if cs.getD k 0 = 0 then 0 else 19 := by
  unfold endE; rw [if_neg hc, causeOf_in hk]
/-- What Cause answers. -/
def causeA (cs : List Int) (x : Int) : Int × Int := match causeOf cs x with
  | some c => (c, 0)
  | none => (0, 18)
theorem causeA_in {cs : List Int} {k : Nat} (hk : k < cs.length) : causeA cs ((k : Int) + 1) = (cs.getD k 0, 0) := by unfold causeA; rw [causeOf_in hk]
theorem causeA_out {cs : List Int} {x : Int} (h : ¬ (1 ≤ x ∧ x ≤ cs.length)) : causeA cs x = (0, 18) := by unfold causeA causeOf; rw [if_neg h]
end Go.Mine
