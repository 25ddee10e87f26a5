/-
  Heaps, as the library's container/heap keeps them. Plain: no program is named.
-/
import Derived.Test.YtmbnmhcfafgnaaaBase
namespace Go.Mine

/-- Who goes first: a weak order. -/
structure Weak {α : Type} (lt : α → α → Bool) : Prop where
  asymm : ∀ a b, lt a b = true → lt b a = false
  trans : ∀ a b c, lt a b = false → lt b c = false → lt a c = false

def par (i : Nat) : Nat := (i - 1) / 2
theorem par_lt {i : Nat} (h : 0 < i) : par i < i := by unfold par; omega
theorem par_child {i c : Nat} (h : c = 2 * i + 1 ∨ c = 2 * i + 2) : par c = i := by unfold par; omega
theorem child_par {i c : Nat} (hc : 0 < c) (h : par c = i) : c = 2 * i + 1 ∨ c = 2 * i + 2 := by unfold par at h; omega

section
variable {α : Type} {lt : α → α → Bool} {l l' : List α} {n i j : Nat}

/-- Two places exchanged. -/
def swapL (l : List α) (i j : Nat) : List α := match l[i]?, l[j]? with | some x, some y => (l.set i y).set j x | _, _ => l
theorem swapL_eq {x y : α} (hi : l[i]? = some x) (hj : l[j]? = some y) : swapL l i j = (l.set i y).set j x := by unfold swapL; rw [hi, hj]
theorem swapL_length (l : List α) (i j : Nat) : (swapL l i j).length = l.length := by
  unfold swapL
  split <;> simp
theorem swapL_get (hi : i < l.length) (hj : j < l.length) (k : Nat) : (swapL l i j)[k]? = if k = i then l[j]? else if k = j then l[i]? else l[k]? := by
  have h1 := List.getElem?_eq_getElem hi
  have h2 := List.getElem?_eq_getElem hj
  rw [swapL_eq h1 h2]
  by_cases hkj : k = j
  · subst hkj
    rw [List.getElem?_set_self (by simpa using hj)]
    by_cases hki : k = i
    · subst hki; rw [if_pos rfl, h1]
    · rw [if_neg hki, if_pos rfl, h1]
  · rw [List.getElem?_set_ne (fun e => hkj e.symm)]
    by_cases hki : k = i
    · subst hki; rw [if_pos rfl, List.getElem?_set_self hi, h2]
    · rw [if_neg hki, if_neg hkj, List.getElem?_set_ne (fun e => hki e.symm)]
theorem swapL_perm (hi : i < l.length) (hj : j < l.length) : (swapL l i j).Perm l := by
  have h := Array.swap_perm (xs := l.toArray) (i := i) (j := j) (by simpa using hi) (by simpa using hj)
  have e : (l.toArray.swap i j (by simpa using hi) (by simpa using hj)) = (swapL l i j).toArray := by
    rw [swapL_eq (List.getElem?_eq_getElem hi) (List.getElem?_eq_getElem hj)]
    simp [Array.swap]
  rw [e] at h
  exact Array.perm_iff_toList_perm.1 h

/-- The first n are a heap. -/
def HeapN (lt : α → α → Bool) (l : List α) (n : Nat) : Prop := ∀ i x y, 0 < i → i < n → l[i]? = some x → l[par i]? = some y → lt x y = false
/-- .. but at j, that may have to go up. -/
structure UpAt (lt : α → α → Bool) (l : List α) (n j : Nat) : Prop where
  le : ∀ i x y, 0 < i → i < n → i ≠ j → l[i]? = some x → l[par i]? = some y → lt x y = false
  by_ : ∀ i x y, 0 < i → i < n → par i = j → 0 < j → l[i]? = some x → l[par j]? = some y → lt x y = false
/-- .. but at j, that may have to go down. -/
structure DownAt (lt : α → α → Bool) (l : List α) (n j : Nat) : Prop where
  le : ∀ i x y, 0 < i → i < n → par i ≠ j → l[i]? = some x → l[par i]? = some y → lt x y = false
  by_ : ∀ i x y, 0 < i → i < n → par i = j → 0 < j → l[i]? = some x → l[par j]? = some y → lt x y = false

theorem UpAt.done0 (h : UpAt lt l n 0) : HeapN lt l n := fun i x y h1 h2 h3 h4 => h.le i x y h1 h2 (by omega) h3 h4
theorem UpAt.done (h : UpAt lt l n j) {x y : α} (hx : l[j]? = some x) (hy : l[par j]? = some y) (hlt : lt x y = false) : HeapN lt l n := fun i u v h1 h2 h3 h4 => by
  by_cases e : i = j
  · subst e
    rw [hx] at h3
    rw [hy] at h4
    injection h3 with h3
    injection h4 with h4
    rw [← h3, ← h4]
    exact hlt
  · exact h.le i u v h1 h2 e h3 h4
theorem UpAt.step (W : Weak lt) (h : UpAt lt l n j) (hj : 0 < j) (hjn : j < n) (hn : n ≤ l.length) {x y : α} (hx : l[j]? = some x) (hy : l[par j]? = some y) (hlt : lt x y = true) :
    UpAt lt (swapL l (par j) j) n (par j) := by
  have hp := par_lt hj
  have hg := swapL_get (l := l) (i := par j) (j := j) (by omega) (by omega)
  have hyx := W.asymm _ _ hlt
  constructor
  · intro i u v h1 h2 h3 h4 h5
    rw [hg] at h4 h5
    rw [if_neg h3] at h4
    have hpi := par_lt h1
    by_cases hij : i = j
    · subst hij
      rw [if_pos rfl, hy] at h4
      rw [if_pos rfl, hx] at h5
      injection h4 with h4
      injection h5 with h5
      rw [← h4, ← h5]
      exact hyx
    · rw [if_neg hij] at h4
      by_cases hpp : par i = par j
      · rw [if_pos hpp, hx] at h5
        injection h5 with h5
        have := h.le i u y h1 h2 hij h4 (by rw [hpp]; exact hy)
        rw [← h5]
        exact W.trans _ _ _ this hyx
      · rw [if_neg hpp] at h5
        by_cases hpj : par i = j
        · rw [if_pos hpj, hy] at h5
          injection h5 with h5
          rw [← h5]
          exact h.by_ i u y h1 h2 hpj hj h4 hy
        · rw [if_neg hpj] at h5
          exact h.le i u v h1 h2 hij h4 h5
  · intro i u v h1 h2 h3 h4 h5 h6
    have hpp := par_lt h4
    rw [hg] at h5 h6
    rw [if_neg (by omega), if_neg (by omega)] at h6
    have hip : i ≠ par j := by have := par_lt h1; omega
    rw [if_neg hip] at h5
    by_cases hij : i = j
    · subst hij
      rw [if_pos rfl, hy] at h5
      injection h5 with h5
      rw [← h5]
      exact h.le (par i) y v h4 (by omega) (by omega) hy h6
    · rw [if_neg hij] at h5
      exact W.trans _ _ _ (h.le i u y h1 h2 hij h5 (by rw [h3]; exact hy)) (h.le (par j) y v h4 (by omega) (by omega) hy h6)

/-- No child of i goes ahead of c. -/
def Least (lt : α → α → Bool) (l : List α) (n i c : Nat) : Prop := ∀ d x y, (d = 2 * i + 1 ∨ d = 2 * i + 2) → d < n → l[d]? = some x → l[c]? = some y → lt x y = false
theorem Least.only (W : Weak lt) (hn : n ≤ 2 * i + 2) : Least lt l n i (2 * i + 1) := fun d x y h1 h2 h3 h4 => by
  have : d = 2 * i + 1 := by omega
  subst this
  rw [h3] at h4
  injection h4 with h4
  subst h4
  cases hh : lt x x with
  | false => rfl
  | true => have := W.asymm _ _ hh; rw [hh] at this; cases this
theorem Least.left (W : Weak lt) {x y : α} (hx : l[2 * i + 2]? = some x) (hy : l[2 * i + 1]? = some y) (hlt : lt x y = false) : Least lt l n i (2 * i + 1) := fun d u v h1 h2 h3 h4 => by
  rw [hy] at h4
  injection h4 with h4
  subst h4
  rcases h1 with h1 | h1
  · subst h1
    rw [hy] at h3
    injection h3 with h3
    subst h3
    cases hh : lt y y with
    | false => rfl
    | true => have := W.asymm _ _ hh; rw [hh] at this; cases this
  · subst h1
    rw [hx] at h3
    injection h3 with h3
    subst h3
    exact hlt
theorem Least.right (W : Weak lt) {x y : α} (hx : l[2 * i + 2]? = some x) (hy : l[2 * i + 1]? = some y) (hlt : lt x y = true) : Least lt l n i (2 * i + 2) := fun d u v h1 h2 h3 h4 => by
  rw [hx] at h4
  injection h4 with h4
  subst h4
  rcases h1 with h1 | h1
  · subst h1
    rw [hy] at h3
    injection h3 with h3
    subst h3
    exact W.asymm _ _ hlt
  · subst h1
    rw [hx] at h3
    injection h3 with h3
    subst h3
    cases hh : lt x x with
    | false => rfl
    | true => have := W.asymm _ _ hh; rw [hh] at this; cases this

theorem DownAt.done0 (h : DownAt lt l n j) (hn : n ≤ 2 * j + 1) : HeapN lt l n := fun i x y h1 h2 h3 h4 => h.le i x y h1 h2 (fun e => by have := child_par h1 e; omega) h3 h4
theorem DownAt.done (W : Weak lt) (h : DownAt lt l n j) {c : Nat} (hm : Least lt l n j c) {x y : α} (hx : l[c]? = some x) (hy : l[j]? = some y) (hlt : lt x y = false) : HeapN lt l n := fun i u v h1 h2 h3 h4 => by
  by_cases e : par i = j
  · have hc := child_par h1 e
    rw [e, hy] at h4
    injection h4 with h4
    rw [← h4]
    exact W.trans _ _ _ (hm i u x hc h2 h3 hx) hlt
  · exact h.le i u v h1 h2 e h3 h4
theorem DownAt.step (W : Weak lt) (h : DownAt lt l n j) {c : Nat} (hc : c = 2 * j + 1 ∨ c = 2 * j + 2) (hcn : c < n) (hn : n ≤ l.length) (hm : Least lt l n j c) {x y : α} (hx : l[c]? = some x) (hy : l[j]? = some y) (hlt : lt x y = true) :
    DownAt lt (swapL l j c) n c := by
  have hg := swapL_get (l := l) (i := j) (j := c) (by omega) (by omega)
  have hyx := W.asymm _ _ hlt
  have hpc := par_child hc
  constructor
  · intro k u v h1 h2 h3 h4 h5
    rw [hg] at h4 h5
    have hpk := par_lt h1
    by_cases hpj : par k = j
    · rw [if_pos hpj, hx] at h5
      injection h5 with h5
      rw [if_neg (by omega)] at h4
      by_cases hkc : k = c
      · rw [if_pos hkc, hy] at h4
        injection h4 with h4
        rw [← h4, ← h5]
        exact hyx
      · rw [if_neg hkc] at h4
        rw [← h5]
        exact hm k u x (child_par h1 hpj) h2 h4 hx
    · rw [if_neg hpj, if_neg h3] at h5
      by_cases hkj : k = j
      · subst hkj
        rw [if_pos rfl, hx] at h4
        injection h4 with h4
        rw [← h4]
        exact h.by_ c x v (by omega) hcn hpc h1 hx h5
      · rw [if_neg hkj] at h4
        by_cases hkc : k = c
        · subst hkc; exact absurd hpc hpj
        · rw [if_neg hkc] at h4
          exact h.le k u v h1 h2 hpj h4 h5
  · intro k u v h1 h2 h3 h4 h5 h6
    have hpk := par_lt h1
    rw [hg] at h5 h6
    rw [hpc, if_pos rfl, hx] at h6
    injection h6 with h6
    rw [if_neg (by omega), if_neg (by omega)] at h5
    rw [← h6]
    exact h.le k u x h1 h2 (by omega) h5 (by rw [h3]; exact hx)

theorem HeapN.root (W : Weak lt) (h : HeapN lt l n) (hn : n ≤ l.length) {y : α} (hy : l[0]? = some y) : ∀ k x, k < n → l[k]? = some x → lt x y = false := by
  intro k
  induction k using Nat.strongRecOn with
  | ind k ih =>
    intro x hk hx
    by_cases h0 : k = 0
    · subst h0
      rw [hx] at hy
      injection hy with hy
      subst hy
      cases hh : lt x x with
      | false => rfl
      | true => have := W.asymm _ _ hh; rw [hh] at this; cases this
    · have hp := par_lt (i := k) (by omega)
      have hz := List.getElem?_eq_getElem (l := l) (i := par k) (by omega)
      exact W.trans _ _ _ (h k x _ (by omega) hk hx hz) (ih (par k) hp _ (by omega) hz)
theorem HeapN.more (h : HeapN lt l l.length) (x : α) : UpAt lt (l ++ [x]) (l.length + 1) l.length := by
  constructor
  · intro i u v h1 h2 h3 h4 h5
    have hp := par_lt h1
    rw [List.getElem?_append_left (by omega)] at h4 h5
    exact h i u v h1 (by omega) h4 h5
  · intro i u v h1 h2 h3 _ _ _
    have hp := par_lt h1
    omega
theorem HeapN.less (h : HeapN lt l (n + 1)) (hl : l.length = n + 1) : DownAt lt (swapL l 0 n) n 0 := by
  have hg := swapL_get (l := l) (i := 0) (j := n) (by omega) (by omega)
  constructor
  · intro i u v h1 h2 h3 h4 h5
    have hp := par_lt h1
    rw [hg] at h4 h5
    rw [if_neg (by omega), if_neg (by omega)] at h4 h5
    exact h i u v h1 (by omega) h4 h5
  · intro i u v _ _ _ h4
    omega
theorem HeapN.nil (lt : α → α → Bool) (l : List α) : HeapN lt l 0 := fun i x y h1 h2 => by omega
theorem HeapN.take (h : HeapN lt l n) : HeapN lt (l.take n) n := fun i x y h1 h2 h3 h4 => by
  have hp := par_lt h1
  rw [List.getElem?_take_of_lt h2] at h3
  rw [List.getElem?_take_of_lt (by omega)] at h4
  exact h i x y h1 h2 h3 h4
/-- What is taken out at the end. -/
theorem take_last (hl : l.length = n + 1) {y : α} (hy : l[n]? = some y) : l = l.take n ++ [y] := by
  have h := List.take_append_drop n l
  have hd : l.drop n = [y] := by
    rw [List.drop_eq_getElem_cons (by omega), List.drop_eq_nil_of_le (by omega)]
    rw [List.getElem?_eq_getElem (by omega)] at hy
    injection hy with hy
    rw [hy]
  rw [hd] at h
  exact h.symm
end
end Go.Mine
