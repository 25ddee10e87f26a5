/-
  Holders of frames: what the reference's words come to. Plain.
-/
import Derived.Test.YtmbnmhcfafgnaaaPressSpec
namespace Go.Mine
open Go.RowKit

/-- Each is one, and no number stands twice. -/
def OkE (l : List Holder) : Prop := (∀ h ∈ l, 1 ≤ h.id ∧ 0 ≤ h.fr ∧ h.fr ≤ 64) ∧ (l.map (·.id)).Nodup
theorem okH_iff (l : List Holder) : OkH l ↔ l.length ≤ 64 ∧ OkE l := Iff.rfl
theorem OkE.nil : OkE [] := ⟨fun _ h => by simp at h, by simp⟩
theorem okE_snoc (l : List Holder) (h : Holder) : OkE (l ++ [h]) ↔ OkE l ∧ (1 ≤ h.id ∧ 0 ≤ h.fr ∧ h.fr ≤ 64) ∧ h.id ∉ l.map (·.id) := by
  unfold OkE
  simp only [List.mem_append, List.mem_singleton, List.map_append, List.map_cons, List.map_nil, List.nodup_append]
  constructor
  · rintro ⟨h1, h2, h3, h4⟩
    refine ⟨⟨fun x hx => h1 x (.inl hx), h2⟩, h1 h (.inr rfl), fun hm => ?_⟩
    exact h4 _ hm _ (by simp) rfl
  · rintro ⟨⟨h1, h2⟩, h3, h4⟩
    refine ⟨fun x hx => ?_, h2, by simp, fun a ha b hb => ?_⟩
    · rcases hx with hx | rfl
      · exact h1 x hx
      · exact h3
    · subst hb
      exact fun e => h4 (e ▸ ha)
theorem okE_take {l : List Holder} (h : OkE l) (k : Nat) : OkE (l.take k) :=
  ⟨fun x hx => h.1 x (List.mem_of_mem_take hx), h.2.sublist ((List.take_sublist k l).map _)⟩
theorem take_snoc {α : Type} (l : List α) {k : Nat} (hk : k < l.length) : l.take (k + 1) = l.take k ++ [l[k]'hk] := List.take_succ_eq_append_getElem hk
theorem checkF_bad {l : List Holder} (h : ¬ OkH l) : checkF l = 2 := by unfold checkF; rw [if_neg h]
theorem checkF_ok {l : List Holder} (h : OkH l) : checkF l = 0 := by unfold checkF; rw [if_pos h]
theorem checkF_cases (l : List Holder) : (OkH l ∧ checkF l = 0) ∨ (¬ OkH l ∧ checkF l = 2) := by
  by_cases h : OkH l
  · exact .inl ⟨h, checkF_ok h⟩
  · exact .inr ⟨h, checkF_bad h⟩
/-- One that does not fit spoils it. -/
theorem bad_at {l : List Holder} {k : Nat} (hk : k < l.length) (h : ¬ ((1 ≤ (l[k]'hk).id ∧ 0 ≤ (l[k]'hk).fr ∧ (l[k]'hk).fr ≤ 64) ∧ (l[k]'hk).id ∉ (l.take k).map (·.id))) : ¬ OkH l := fun hO => by
  have h1 := okE_take hO.2 (k + 1)
  rw [take_snoc l hk, okE_snoc] at h1
  exact h h1.2
theorem ok_step {l : List Holder} {k : Nat} (hk : k < l.length) (h0 : OkE (l.take k)) (h : (1 ≤ (l[k]'hk).id ∧ 0 ≤ (l[k]'hk).fr ∧ (l[k]'hk).fr ≤ 64) ∧ (l[k]'hk).id ∉ (l.take k).map (·.id)) : OkE (l.take (k + 1)) := by
  rw [take_snoc l hk, okE_snoc]
  exact ⟨h0, h⟩

def heldF (l : List Holder) : Int := if OkH l then sumF l else 0
def victimF (l : List Holder) : Int × Int := if OkH l then (match vict l with | [] => (0, 16) | h :: _ => (h.id, 0)) else (0, 2)
theorem sumF_bound {l : List Holder} (h : ∀ x ∈ l, 0 ≤ x.fr ∧ x.fr ≤ 64) : 0 ≤ sumF l ∧ sumF l ≤ 64 * l.length := by
  induction l with
  | nil => exact ⟨Int.le_refl _, by simp [sumF_nil]⟩
  | cons a l ih =>
    have h1 := ih fun x hx => h x (List.mem_cons_of_mem _ hx)
    have h2 := h a List.mem_cons_self
    rw [sumF_cons, List.length_cons]
    omega
theorem sumF_take {l : List Holder} {k : Nat} (hk : k < l.length) : sumF (l.take (k + 1)) = sumF (l.take k) + (l[k]'hk).fr := by
  rw [take_snoc l hk, sumF_append, sumF_cons, sumF_nil]; omega

/-- Where the victim stands among the first k. -/
def firstTo (l : List Holder) : Nat → Option Nat
  | 0 => none
  | k + 1 => match firstTo l k with
    | none => if 0 < (l.getD k ⟨0, 0⟩).fr then some k else none
    | some a => if 0 < (l.getD k ⟨0, 0⟩).fr ∧ ltH (l.getD k ⟨0, 0⟩) (l.getD a ⟨0, 0⟩) = true then some k else some a
theorem firstTo_some {l : List Holder} : ∀ {k a : Nat}, firstTo l k = some a → a < k ∧ 0 < (l.getD a ⟨0, 0⟩).fr ∧ ∀ j, j < k → 0 < (l.getD j ⟨0, 0⟩).fr → ltH (l.getD j ⟨0, 0⟩) (l.getD a ⟨0, 0⟩) = false
  | 0, a, h => by cases h
  | k + 1, a, h => by
    rw [firstTo] at h
    cases hf : firstTo l k with
    | none =>
      rw [hf] at h
      simp only at h
      split at h
      · rename_i hp
        injection h with h
        subst h
        refine ⟨by omega, hp, fun j hj hjp => ?_⟩
        by_cases e : j = k
        · subst e
          cases hh : ltH (l.getD j ⟨0, 0⟩) (l.getD j ⟨0, 0⟩) with
          | false => rfl
          | true => have := weakH.asymm _ _ hh; rw [hh] at this; cases this
        · exact absurd hjp (by have := firstTo_none hf j (by omega); omega)
      · cases h
    | some b =>
      rw [hf] at h
      simp only at h
      obtain ⟨h1, h2, h3⟩ := firstTo_some hf
      split at h
      · rename_i hp
        injection h with h
        subst h
        refine ⟨by omega, hp.1, fun j hj hjp => ?_⟩
        by_cases e : j = k
        · subst e
          cases hh : ltH (l.getD j ⟨0, 0⟩) (l.getD j ⟨0, 0⟩) with
          | false => rfl
          | true => have := weakH.asymm _ _ hh; rw [hh] at this; cases this
        · exact weakH.trans _ _ _ (h3 j (by omega) hjp) (weakH.asymm _ _ hp.2)
      · rename_i hp
        injection h with h
        subst h
        refine ⟨by omega, h2, fun j hj hjp => ?_⟩
        by_cases e : j = k
        · subst e
          cases hh : ltH (l.getD j ⟨0, 0⟩) (l.getD b ⟨0, 0⟩) with
          | false => rfl
          | true => exact absurd ⟨hjp, hh⟩ hp
        · exact h3 j (by omega) hjp
where firstTo_none {l : List Holder} : ∀ {k : Nat}, firstTo l k = none → ∀ j, j < k → (l.getD j ⟨0, 0⟩).fr ≤ 0
  | 0, _, j, hj => by omega
  | k + 1, h, j, hj => by
    rw [firstTo] at h
    cases hf : firstTo l k with
    | none =>
      rw [hf] at h
      simp only at h
      split at h
      · cases h
      · rename_i hp
        by_cases e : j = k
        · subst e; omega
        · exact firstTo_none hf j (by omega)
    | some b =>
      rw [hf] at h
      simp only at h
      split at h <;> cases h

/-- What is left when the first m went. -/
def restF (l : List Holder) (m : Nat) : List Holder := l.map fun h => if h ∈ (vict l).take m then ⟨h.id, 0⟩ else h
theorem restF_length (l : List Holder) (m : Nat) : (restF l m).length = l.length := by simp [restF]
theorem restF_zero (l : List Holder) : restF l 0 = l := by simp [restF]
theorem restF_get {l : List Holder} {m j : Nat} (hj : j < l.length) : (restF l m).getD j ⟨0, 0⟩ = if (l[j]'hj) ∈ (vict l).take m then ⟨(l[j]'hj).id, 0⟩ else l[j]'hj := by
  unfold restF
  rw [List.getD_eq_getElem?_getD, List.getElem?_map, List.getElem?_eq_getElem hj]
  rfl
theorem nodup_drop {α : Type} {v : List α} (h : v.Nodup) {m : Nat} {x : α} (hx : x ∈ v.take m) (hy : x ∈ v.drop m) : False := by
  rw [← List.take_append_drop m v, List.nodup_append] at h
  exact h.2.2 x hx x hy rfl
theorem rest_live {l : List Holder} (hO : OkH l) {m j : Nat} (hj : j < l.length) (hp : 0 < ((restF l m).getD j ⟨0, 0⟩).fr) : (restF l m).getD j ⟨0, 0⟩ = l[j]'hj ∧ (l[j]'hj) ∈ (vict l).drop m := by
  rw [restF_get hj] at hp ⊢
  split at hp
  · simp at hp
  · rename_i hn
    rw [if_neg hn]
    refine ⟨rfl, ?_⟩
    have : l[j]'hj ∈ vict l := vict_mem.2 ⟨List.getElem_mem hj, hp⟩
    rw [← List.take_append_drop m (vict l), List.mem_append] at this
    exact this.resolve_left hn
theorem first_rest {l : List Holder} (hO : OkH l) {m : Nat} (hm : m < (vict l).length) : ∃ a, firstTo (restF l m) (restF l m).length = some a ∧ ∃ ha : a < l.length, l[a]'ha = (vict l)[m]'hm ∧ (restF l m).getD a ⟨0, 0⟩ = l[a]'ha := by
  have hnd := vict_nodup hO
  have hsr := vict_sorted hO
  obtain ⟨x, hx⟩ : ∃ x, (vict l)[m]'hm = x := ⟨_, rfl⟩
  have hxm : x ∈ vict l := by rw [← hx]; exact List.getElem_mem hm
  obtain ⟨hxl, hxp⟩ := vict_mem.1 hxm
  obtain ⟨b, hb, hbx⟩ := List.mem_iff_getElem.1 hxl
  have hdr : (vict l).drop m = x :: (vict l).drop (m + 1) := by rw [List.drop_eq_getElem_cons hm, hx]
  have hxt : x ∉ (vict l).take m := fun h => nodup_drop hnd h (by rw [hdr]; exact List.mem_cons_self)
  have hrb : (restF l m).getD b ⟨0, 0⟩ = x := by rw [restF_get hb, if_neg (by rw [hbx]; exact hxt), hbx]
  rw [restF_length]
  cases hf : firstTo (restF l m) l.length with
  | none =>
    have := firstTo_some.firstTo_none hf b hb
    rw [hrb] at this
    omega
  | some a =>
    obtain ⟨h1, h2, h3⟩ := firstTo_some hf
    obtain ⟨h4, h5⟩ := rest_live hO h1 h2
    refine ⟨a, rfl, h1, ?_, h4⟩
    rw [hx]
    rw [hdr] at h5
    rcases List.mem_cons.1 h5 with h5 | h5
    · exact h5
    · exfalso
      have h6 := h3 b hb (by rw [hrb]; exact hxp)
      rw [hrb, h4] at h6
      have h7 : (x :: (vict l).drop (m + 1)).Pairwise fun a b => ltH a b = true := by
        rw [← hdr]; exact hsr.sublist (List.drop_sublist _ _)
      have := (List.pairwise_cons.1 h7).1 _ h5
      rw [h6] at this
      cases this
theorem first_end {l : List Holder} (hO : OkH l) {m : Nat} (hm : (vict l).length ≤ m) : firstTo (restF l m) (restF l m).length = none := by
  cases hf : firstTo (restF l m) (restF l m).length with
  | none => rfl
  | some a =>
    obtain ⟨h1, h2, h3⟩ := firstTo_some hf
    rw [restF_length] at h1
    have := (rest_live hO h1 h2).2
    rw [List.drop_eq_nil_of_le hm] at this
    cases this
theorem rest_next {l : List Holder} (hO : OkH l) {m a : Nat} (hm : m < (vict l).length) (ha : a < l.length) (hx : l[a]'ha = (vict l)[m]'hm) : (restF l m).set a ⟨(l[a]'ha).id, 0⟩ = restF l (m + 1) := by
  apply List.ext_getElem (by simp [restF_length])
  intro j h1 h2
  have hj : j < l.length := by simpa [restF_length] using h2
  have e2 : (restF l (m + 1))[j] = if (l[j]'hj) ∈ (vict l).take (m + 1) then ⟨(l[j]'hj).id, 0⟩ else l[j]'hj := by simp [restF]
  have e1 : (restF l m)[j]'(by rw [restF_length]; exact hj) = if (l[j]'hj) ∈ (vict l).take m then ⟨(l[j]'hj).id, 0⟩ else l[j]'hj := by simp [restF]
  have ht : (vict l).take (m + 1) = (vict l).take m ++ [l[a]'ha] := by rw [take_snoc _ hm, hx]
  rw [e2, List.getElem_set]
  by_cases hja : a = j
  · subst hja
    rw [if_pos rfl, if_pos (by rw [ht]; simp)]
  · rw [if_neg hja, e1, ht]
    have hne : l[j]'hj ≠ l[a]'ha := fun e => by
      have := List.pairwise_iff_getElem.1 hO.2.2
      rcases Nat.lt_trichotomy j a with h | h | h
      · exact this j a (by simpa using hj) (by simpa using ha) h (by simp [e])
      · exact hja h.symm
      · exact this a j (by simpa using ha) (by simpa using hj) h (by simp [e])
    simp only [List.mem_append, List.mem_singleton, hne, or_false]

theorem vict_same {l m : List Holder} (hO : OkH l) (hp : m.Perm l) : OkH m ∧ vict m = vict l := by
  have hM : OkH m := ⟨by rw [hp.length_eq]; exact hO.1, fun h hh => hO.2.1 h (hp.mem_iff.1 hh), (hp.map _).nodup_iff.2 hO.2.2⟩
  refine ⟨hM, ?_⟩
  have hq : (vict m).Perm (vict l) := (vict_perm m).trans ((hp.filter _).trans (vict_perm l).symm)
  exact hq.eq_of_pairwise (fun a b _ _ h1 h2 => by have := weakH.asymm _ _ h1; rw [h2] at this; cases this) (vict_sorted hM) (vict_sorted hO)
end Go.Mine
