/-
  Holders of frames: a plan, step by step. Plain.
-/
import Derived.Test.YtmbnmhcfafgnaaaPressLaw
namespace Go.Mine
open Go.RowKit
/-- A plan is under way: m went, f are free. -/
def PlanAt (v : List Holder) (free want : Int) (m : Nat) (f : Int) : Prop :=
  (planF v free want).1 = v.take m ++ (planF (v.drop m) f want).1 ∧ (planF v free want).2 = (planF (v.drop m) f want).2
theorem PlanAt.start (v : List Holder) (free want : Int) : PlanAt v free want 0 free := by simp [PlanAt]
theorem PlanAt.step {v : List Holder} {free want f : Int} {m : Nat} (h : PlanAt v free want m f) {x : Holder} (hx : v[m]? = some x) (hw : ¬ want ≤ f) : PlanAt v free want (m + 1) (f + x.fr) := by
  obtain ⟨hm, hx⟩ := List.getElem?_eq_some_iff.1 hx
  obtain ⟨h1, h2⟩ := h
  rw [List.drop_eq_getElem_cons hm, hx, planF, if_neg hw] at h1 h2
  refine ⟨?_, h2⟩
  rw [take_snoc v hm, hx, h1]
  simp
theorem PlanAt.stop {v : List Holder} {free want f : Int} {m : Nat} (h : PlanAt v free want m f) (hw : want ≤ f ∨ v.length ≤ m) : planF v free want = (v.take m, f) := by
  obtain ⟨h1, h2⟩ := h
  have e : planF (v.drop m) f want = ([], f) := by
    rcases hw with hw | hw
    · cases v.drop m with
      | nil => rfl
      | cons x r => rw [planF, if_pos hw]
    · rw [List.drop_eq_nil_of_le hw]; rfl
  rw [e] at h1 h2
  simp only [List.append_nil] at h1 h2
  exact Prod.ext h1 h2
def PlanOk (l : List Holder) (free want : Int) : Prop := OkH l ∧ 0 ≤ free ∧ free ≤ 10000 ∧ 0 ≤ want ∧ want ≤ 10000
instance (l : List Holder) (free want : Int) : Decidable (PlanOk l free want) := by unfold PlanOk; infer_instance
def planR (l : List Holder) (free want : Int) : List Int × Int × Int := if PlanOk l free want then ((planF (vict l) free want).1.map (·.id), (planF (vict l) free want).2, 0) else ([], 0, 2)
theorem vict_len {l : List Holder} (h : OkH l) : (vict l).length ≤ 64 := Nat.le_trans (vict_length l) h.1
theorem vict_fr {l : List Holder} (h : OkH l) {m : Nat} {x : Holder} (hx : (vict l)[m]? = some x) : 0 < x.fr ∧ x.fr ≤ 64 := by
  have := vict_mem.1 (List.mem_of_getElem? hx)
  exact ⟨this.2, (h.2.1 x this.1).2.2⟩
theorem planR_ids_len {l : List Holder} {free want : Int} : (planR l free want).1.length ≤ 64 := by
  unfold planR
  split
  · rename_i h
    rw [List.length_map, planF_take]
    have := vict_len h.1
    rw [List.length_take]
    omega
  · simp
def atF : Option Nat → Int
  | none => -1
  | some a => (a : Int)
theorem firstTo_lt {l : List Holder} {k a : Nat} (h : firstTo l k = some a) : a < k := (firstTo_some h).1
theorem victim_head {l : List Holder} (hO : OkH l) : (vict l = [] ∧ firstTo l l.length = none) ∨ ∃ a, ∃ ha : a < l.length, firstTo l l.length = some a ∧ ∃ r, vict l = (l[a]'ha) :: r := by
  cases hv : vict l with
  | nil =>
    have := first_end hO (m := 0) (by rw [hv]; exact Nat.le_refl _)
    rw [restF_zero] at this
    exact .inl ⟨rfl, this⟩
  | cons x r =>
    obtain ⟨a, h1, ha, h2, -⟩ := first_rest hO (m := 0) (by rw [hv]; simp)
    rw [restF_zero] at h1
    refine .inr ⟨a, ha, h1, r, ?_⟩
    rw [h2]
    simp [hv]
end Go.Mine
