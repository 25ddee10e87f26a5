/-
  Holders of frames: who goes first, who goes at all. Plain.
-/
import Derived.Test.YtmbnmhcfafgnaaaHeapSpec
import Derived.Test.YtmbnmhcfafgnaaaInts
namespace Go.Mine
open Go.RowKit

structure Holder where
  id : Int
  fr : Int
deriving DecidableEq
def Holder.cells (h : Holder) : List Value := [.int .i64 h.id, .int .i64 h.fr]
theorem Holder.len (h : Holder) : h.cells.length = 2 := rfl
/-- Who goes first. -/
def ltH (a b : Holder) : Bool := decide (b.fr < a.fr) || (decide (a.fr = b.fr) && decide (a.id < b.id))
theorem ltH_iff (a b : Holder) : ltH a b = true ↔ b.fr < a.fr ∨ (a.fr = b.fr ∧ a.id < b.id) := by simp [ltH]
theorem ltH_no (a b : Holder) : ltH a b = false ↔ a.fr ≤ b.fr ∧ (a.fr = b.fr → b.id ≤ a.id) := by
  rw [Bool.eq_false_iff, Ne, ltH_iff]; omega
theorem weakH : Weak ltH where
  asymm := fun a b h => by rw [ltH_iff] at h; rw [ltH_no]; omega
  trans := fun a b c h1 h2 => by rw [ltH_no] at *; omega

/-- Are they holders? -/
def OkH (l : List Holder) : Prop := l.length ≤ 64 ∧ (∀ h ∈ l, 1 ≤ h.id ∧ 0 ≤ h.fr ∧ h.fr ≤ 64) ∧ (l.map (·.id)).Nodup
instance (l : List Holder) : Decidable (OkH l) := by unfold OkH; infer_instance
def checkF (l : List Holder) : Int := if OkH l then 0 else 2
theorem OkH.id_inj {l : List Holder} (h : OkH l) {a b : Holder} (ha : a ∈ l) (hb : b ∈ l) (e : a.id = b.id) : a = b := by
  obtain ⟨i, hi, rfl⟩ := List.mem_iff_getElem.1 ha
  obtain ⟨j, hj, rfl⟩ := List.mem_iff_getElem.1 hb
  have hn := List.pairwise_iff_getElem.1 h.2.2
  rcases Nat.lt_trichotomy i j with hl | hl | hl
  · exact absurd e (by have := hn i j (by simpa using hi) (by simpa using hj) hl; simpa using this)
  · subst hl; rfl
  · exact absurd e.symm (by have := hn j i (by simpa using hj) (by simpa using hi) hl; simpa using this)
/-- The victims, in their order. -/
def vict (l : List Holder) : List Holder := (l.filter fun h => decide (0 < h.fr)).mergeSort fun a b => !ltH b a
theorem vict_perm (l : List Holder) : (vict l).Perm (l.filter fun h => decide (0 < h.fr)) := List.mergeSort_perm _ _
theorem vict_mem {l : List Holder} {h : Holder} : h ∈ vict l ↔ h ∈ l ∧ 0 < h.fr := by
  rw [(vict_perm l).mem_iff, List.mem_filter]; simp
theorem vict_length (l : List Holder) : (vict l).length ≤ l.length := by
  rw [(vict_perm l).length_eq]; exact List.length_filter_le _ _
theorem vict_nodup {l : List Holder} (h : OkH l) : (vict l).Nodup := by
  refine (vict_perm l).nodup_iff.2 (List.Pairwise.filter _ ?_)
  exact (List.pairwise_map.1 h.2.2).imp fun hn e => hn (by rw [e])
theorem vict_sorted {l : List Holder} (h : OkH l) : (vict l).Pairwise fun a b => ltH a b = true := by
  have h1 : (vict l).Pairwise fun a b => (!ltH b a) = true := by
    refine List.pairwise_mergeSort (fun a b c h1 h2 => ?_) (fun a b => ?_) _
    · simp only [Bool.not_eq_true'] at *
      exact weakH.trans _ _ _ h2 h1
    · cases hab : ltH b a
      · simp
      · rw [weakH.asymm _ _ hab]; simp
  have h2 := vict_nodup h
  refine (h1.and h2).imp_of_mem fun {a b} ha hb hh => ?_
  obtain ⟨h3, h4⟩ := hh
  simp only [Bool.not_eq_true'] at h3
  rw [ltH_no] at h3
  rw [ltH_iff]
  have ha' := (vict_mem.1 ha).1
  have hb' := (vict_mem.1 hb).1
  rcases Int.lt_or_gt_of_ne (show a.id ≠ b.id from fun e => h4 (h.id_inj ha' hb' e)) with hl | hl
  · omega
  · omega
/-- The one that a heap hands out is the next one. -/
theorem vict_next {x y : Holder} {r hl : List Holder} (hs : (x :: r).Pairwise fun a b => ltH a b = true) (hp : hl.Perm (x :: r)) (hy : y ∈ hl) (hm : ∀ z ∈ hl, ltH z y = false) : y = x := by
  have h1 := hp.mem_iff.1 hy
  rcases List.mem_cons.1 h1 with h1 | h1
  · exact h1
  · have h2 := (List.pairwise_cons.1 hs).1 y h1
    rw [hm x (hp.mem_iff.2 List.mem_cons_self)] at h2
    cases h2

/-- Who is evicted, and what is free then. -/
def planF : List Holder → Int → Int → List Holder × Int
  | [], free, _ => ([], free)
  | h :: r, free, want => if want ≤ free then ([], free) else (h :: (planF r (free + h.fr) want).1, (planF r (free + h.fr) want).2)
theorem planF_take : ∀ (v : List Holder) (free want : Int), (planF v free want).1 = v.take (planF v free want).1.length
  | [], _, _ => rfl
  | h :: r, free, want => by
    unfold planF
    split
    · rfl
    · simp only [List.length_cons, List.take_succ_cons]
      rw [← planF_take r (free + h.fr) want]
def sumF (l : List Holder) : Int := l.foldr (fun h s => h.fr + s) 0
theorem sumF_nil : sumF [] = 0 := rfl
theorem sumF_cons (h : Holder) (l : List Holder) : sumF (h :: l) = h.fr + sumF l := rfl
theorem sumF_append (a b : List Holder) : sumF (a ++ b) = sumF a + sumF b := by
  induction a with
  | nil => simp [sumF_nil]
  | cons h a ih => rw [List.cons_append, sumF_cons, sumF_cons, ih]; omega
theorem sumF_perm {a b : List Holder} (h : a.Perm b) : sumF a = sumF b := by
  induction h with
  | nil => rfl
  | cons x _ ih => rw [sumF_cons, sumF_cons, ih]
  | swap x y l => simp only [sumF_cons]; omega
  | trans _ _ h1 h2 => rw [h1, h2]
theorem sumF_filter (l : List Holder) (h0 : ∀ h ∈ l, 0 ≤ h.fr) : sumF (l.filter fun h => decide (0 < h.fr)) = sumF l := by
  induction l with
  | nil => rfl
  | cons h l ih =>
    have h1 := h0 h List.mem_cons_self
    have h2 := ih fun x hx => h0 x (List.mem_cons_of_mem _ hx)
    rw [List.filter_cons]
    by_cases hp : 0 < h.fr
    · rw [if_pos (by simpa using hp), sumF_cons, sumF_cons, h2]
    · rw [if_neg (by simpa using hp), sumF_cons, h2]; omega
theorem planF_sum : ∀ (v : List Holder) (free want : Int), (planF v free want).2 = free + sumF (planF v free want).1
  | [], free, _ => by simp [planF, sumF_nil]
  | h :: r, free, want => by
    unfold planF
    split
    · simp [sumF_nil]
    · simp only [sumF_cons]; rw [planF_sum r (free + h.fr) want]; omega
/-- It is enough, or all are evicted. -/
theorem planF_end : ∀ (v : List Holder) (free want : Int), want ≤ (planF v free want).2 ∨ (planF v free want).1 = v
  | [], _, _ => .inr rfl
  | h :: r, free, want => by
    unfold planF
    split
    · rename_i hw; exact .inl hw
    · rcases planF_end r (free + h.fr) want with h1 | h1
      · exact .inl h1
      · exact .inr (by simp only; rw [h1])
/-- Without the last ones it were too few. -/
theorem planF_few : ∀ (v : List Holder) (free want : Int) (i : Nat), i < (planF v free want).1.length → free + sumF ((planF v free want).1.take i) < want
  | [], _, _, i, h => by simp [planF] at h
  | x :: r, free, want, i, h => by
    unfold planF at h ⊢
    split at h
    · simp at h
    · rename_i hw
      rw [if_neg hw]
      cases i with
      | zero => simp only [List.take_zero, sumF_nil]; omega
      | succ i =>
        simp only [List.length_cons] at h
        have := planF_few r (free + x.fr) want i (by omega)
        simp only [List.take_succ_cons, sumF_cons]
        omega
end Go.Mine
