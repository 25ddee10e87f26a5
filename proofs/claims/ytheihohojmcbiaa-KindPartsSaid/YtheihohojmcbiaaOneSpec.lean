/-
  Law 03: PrefixOne: which code bits begin with, gone through one by one. Plain.
-/
import Derived.Test.YtheihohojmcbiaaMadeSpec
namespace Go.Mine
open Go.RowKit

/-- Do a code and what is left say the same in the first places? -/
def agreeB (s : List UInt8) (T : List Bool) (m : Nat) : Bool := decide ((bls s).take m = T.take m)
theorem agree_zero (s : List UInt8) (T : List Bool) : agreeB s T 0 = true := by simp [agreeB]
theorem agree_succ {s : List UInt8} {T : List Bool} {m : Nat} (h1 : m < s.length) (h2 : m < T.length) : agreeB s T (m + 1) = (agreeB s T m && decide ((s[m]'h1 == 49) = T[m]'h2)) := by
  have hb : m < (bls s).length := by rw [bls_length]; exact h1
  have hg : (bls s)[m]'hb = (s[m]'h1 == 49) := by simp [bls]
  unfold agreeB
  rw [List.take_add_one, List.take_add_one, List.getElem?_eq_getElem hb, List.getElem?_eq_getElem h2, Bool.eq_iff_iff, Bool.and_eq_true, decide_eq_true_iff, decide_eq_true_iff, decide_eq_true_iff, hg]
  constructor
  · intro h
    have hl : ((bls s).take m).length = (T.take m).length := by rw [List.length_take, List.length_take, bls_length]; omega
    have := List.append_inj h hl
    exact ⟨this.1, by simpa using this.2⟩
  · rintro ⟨h, h'⟩
    rw [h, h']
theorem agree_pre {s : List UInt8} {T : List Bool} (h : s.length ≤ T.length) : agreeB s T s.length = (bls s).isPrefixOf T := by
  unfold agreeB
  rw [Bool.eq_iff_iff, decide_eq_true_iff, List.isPrefixOf_iff_prefix, List.prefix_iff_eq_take, bls_length, List.take_of_length_le (by rw [bls_length]; exact Nat.le_refl _)]
theorem agree_part {s : List UInt8} {T : List Bool} (h : T.length < s.length) : agreeB s T T.length = T.isPrefixOf (bls s) := by
  unfold agreeB
  rw [Bool.eq_iff_iff, decide_eq_true_iff, List.isPrefixOf_iff_prefix, List.prefix_iff_eq_take, List.take_of_length_le (Nat.le_refl T.length)]
  exact eq_comm

/-- Is what is left a beginning of a code, and not all of it? -/
def partB (T : List Bool) (s : List UInt8) : Bool := T.isPrefixOf (bls s) && decide (T.length < s.length)
/-- What was seen of the first q codes. -/
def OneAt (K : List (List UInt8)) (T : List Bool) (q : Nat) (wh : Int) (pt : Bool) : Prop :=
  pt = (K.take q).any (partB T) ∧ ((wh = -1 ∧ ∀ s ∈ K.take q, (bls s).isPrefixOf T = false) ∨ ∃ (j : Nat) (s : List UInt8), j < q ∧ K[j]? = some s ∧ (bls s).isPrefixOf T = true ∧ wh = (j : Int))
theorem OneAt.start (K : List (List UInt8)) (T : List Bool) : OneAt K T 0 (-1) false := ⟨by simp, .inl ⟨rfl, by simp⟩⟩
section
variable {K : List (List UInt8)} {T : List Bool} {q : Nat} {wh : Int} {pt : Bool} {s : List UInt8}
theorem OneAt.next (h : OneAt K T q wh pt) (hs : K[q]? = some s) (hno : (bls s).isPrefixOf T = false) {pt' : Bool} (hp : pt' = (pt || partB T s)) : OneAt K T (q + 1) wh pt' := by
  obtain ⟨h1, h2⟩ := h
  refine ⟨by rw [hp, h1, List.take_add_one, hs, List.any_append]; simp, ?_⟩
  rcases h2 with ⟨e, h2⟩ | ⟨j, u, hj, hu, hy, e⟩
  · refine .inl ⟨e, fun u hu => ?_⟩
    rw [List.take_add_one, hs] at hu
    rcases List.mem_append.1 hu with hu | hu
    · exact h2 u hu
    · simp at hu; rw [hu]; exact hno
  · exact .inr ⟨j, u, by omega, hu, hy, e⟩
theorem OneAt.hit (h : OneAt K T q wh pt) (hs : K[q]? = some s) (hy : (bls s).isPrefixOf T = true) (hw : wh = -1) : OneAt K T (q + 1) (q : Int) pt := by
  obtain ⟨h1, _⟩ := h
  have hp : partB T s = false := by
    unfold partB
    have := (List.isPrefixOf_iff_prefix.1 hy).length_le
    rw [bls_length] at this
    rw [decide_eq_false (by omega), Bool.and_false]
  exact ⟨by rw [h1, List.take_add_one, hs, List.any_append]; simp [hp], .inr ⟨q, s, by omega, hs, hy, rfl⟩⟩
theorem kept_one (hK : KeptOk K) {i j : Nat} {u : List UInt8} (hu : K[i]? = some u) (hs : K[j]? = some s) (h1 : (bls u).isPrefixOf T = true) (h2 : (bls s).isPrefixOf T = true) : i = j := by
  obtain ⟨li, gi⟩ := List.getElem?_eq_some_iff.1 hu
  obtain ⟨lj, gj⟩ := List.getElem?_eq_some_iff.1 hs
  have hb : ∀ i (h : i < K.length), BinT (K[i]'h) := fun i h => BinT.of_code (List.all_eq_true.1 hK.2.1 _ (List.getElem_mem h))
  have bu : BinT u := by rw [← gi]; exact hb i li
  have bs : BinT s := by rw [← gj]; exact hb j lj
  have hpw := List.pairwise_iff_getElem.1 hK.2.2
  rcases List.prefix_or_prefix_of_prefix (List.isPrefixOf_iff_prefix.1 h1) (List.isPrefixOf_iff_prefix.1 h2) with hp | hp
  · have hp2 := (bls_prefix _ _ bu bs).1 hp
    rcases Nat.lt_trichotomy i j with hlt | hlt | hlt
    · have := (hpw i j li lj hlt).1; rw [gi, gj] at this; exact absurd hp2 this
    · exact hlt
    · have := (hpw j i lj li hlt).2; rw [gi, gj] at this; exact absurd hp2 this
  · have hp2 := (bls_prefix _ _ bs bu).1 hp
    rcases Nat.lt_trichotomy i j with hlt | hlt | hlt
    · have := (hpw i j li lj hlt).2; rw [gi, gj] at this; exact absurd hp2 this
    · exact hlt
    · have := (hpw j i lj li hlt).1; rw [gi, gj] at this; exact absurd hp2 this
/-- At most one code. -/
theorem OneAt.fresh (hK : KeptOk K) (h : OneAt K T q wh pt) (hs : K[q]? = some s) (hy : (bls s).isPrefixOf T = true) : wh = -1 := by
  rcases h.2 with ⟨e, _⟩ | ⟨j, u, hj, hu, hyu, e⟩
  · exact e
  · have := kept_one hK hu hs hyu hy
    omega
theorem kv_get {j : Nat} (hs : K[j]? = some s) : (kvOf (K.zip (upTo K.length)))[j]? = some (bls s, (j : Int)) := by
  obtain ⟨lj, gj⟩ := List.getElem?_eq_some_iff.1 hs
  rw [kvOf, List.getElem?_map, kept_zip K lj, gj]
  rfl
theorem kv_mem {c : List Bool × Int} (hc : c ∈ kvOf (K.zip (upTo K.length))) : ∃ (j : Nat) (u : List UInt8), K[j]? = some u ∧ c = (bls u, (j : Int)) := by
  obtain ⟨j, hj⟩ := List.getElem?_of_mem hc
  have hl := (List.getElem?_eq_some_iff.1 hj).1
  rw [kvOf_length] at hl
  have hlk : j < K.length := by simp [upTo_length] at hl; omega
  have := kv_get (List.getElem?_eq_getElem hlk)
  rw [hj] at this
  injection this with this
  exact ⟨j, _, List.getElem?_eq_getElem hlk, this⟩
theorem getOf_one (hK : KeptOk K) {j : Nat} (hs : K[j]? = some s) (hy : (bls s).isPrefixOf T = true) : getOf (kvOf (K.zip (upTo K.length))) T = ((j : Int), (s.length : Int), 0) := by
  unfold getOf
  have hf : (kvOf (K.zip (upTo K.length))).find? (fun c => c.1.isPrefixOf T) = some (bls s, (j : Int)) := by
    rcases hq : (kvOf (K.zip (upTo K.length))).find? (fun c => c.1.isPrefixOf T) with _ | c
    · exfalso
      have := List.find?_eq_none.1 hq _ (List.mem_of_getElem? (kv_get hs))
      exact this hy
    · have hc := List.find?_some hq
      obtain ⟨i, u, hu, rfl⟩ := kv_mem (List.mem_of_find?_eq_some hq)
      have := kept_one hK hu hs hc hy
      subst this
      rw [hu] at hs
      injection hs with hs
      rw [← hs]; exact hq
  rw [hf]
  simp [bls_length]
/-- What is got, of what was seen. -/
theorem OneAt.got (hK : KeptOk K) (h : OneAt K T K.length wh pt) :
    (∃ (j : Nat) (s : List UInt8), j < K.length ∧ K[j]? = some s ∧ wh = (j : Int) ∧ getOf (kvOf (K.zip (upTo K.length))) T = ((j : Int), (s.length : Int), 0)) ∨
    (wh = -1 ∧ pt = true ∧ getOf (kvOf (K.zip (upTo K.length))) T = (0, 0, 5)) ∨ (wh = -1 ∧ pt = false ∧ getOf (kvOf (K.zip (upTo K.length))) T = (0, 0, 7)) := by
  obtain ⟨h1, h2⟩ := h
  rw [List.take_length] at h1 h2
  rcases h2 with ⟨e, h2⟩ | ⟨j, u, hj, hu, hy, e⟩
  · right
    have hf : (kvOf (K.zip (upTo K.length))).find? (fun c => c.1.isPrefixOf T) = none := by
      rw [List.find?_eq_none]
      intro c hc
      obtain ⟨i, u, hu, rfl⟩ := kv_mem hc
      simp [h2 u (List.mem_of_getElem? hu)]
    have hany : ((kvOf (K.zip (upTo K.length))).any fun c => T.isPrefixOf c.1) = pt := by
      rw [h1, Bool.eq_iff_iff, List.any_eq_true, List.any_eq_true]
      constructor
      · rintro ⟨c, hc, hp⟩
        obtain ⟨i, u, hu, rfl⟩ := kv_mem hc
        refine ⟨u, List.mem_of_getElem? hu, ?_⟩
        have hne := h2 u (List.mem_of_getElem? hu)
        unfold partB
        rw [hp, Bool.true_and, decide_eq_true_iff]
        have hle := (List.isPrefixOf_iff_prefix.1 hp).length_le
        rw [bls_length] at hle
        rcases Nat.lt_or_eq_of_le hle with hlt | heq
        · exact hlt
        · exfalso
          have := (List.isPrefixOf_iff_prefix.1 hp).eq_of_length (by rw [bls_length]; exact heq)
          rw [this] at hne
          rw [Bool.eq_false_iff] at hne
          exact hne (List.isPrefixOf_iff_prefix.2 (List.prefix_refl _))
      · rintro ⟨u, hu, hp⟩
        obtain ⟨i, hi⟩ := List.getElem?_of_mem hu
        refine ⟨_, List.mem_of_getElem? (kv_get hi), ?_⟩
        unfold partB at hp
        simp only [Bool.and_eq_true] at hp
        exact hp.1
    unfold getOf
    rw [hf]
    cases pt
    · right; refine ⟨e, rfl, ?_⟩; simp only [hany]; rfl
    · left; refine ⟨e, rfl, ?_⟩; simp only [hany]; rfl
  · exact .inl ⟨j, u, hj, hu, e, getOf_one hK hu hy⟩
/-- The tree's answer. -/
theorem getF_kept (hK : KeptOk K) (h0 : K ≠ []) {t : List TNode} (hb : build [TNode.mt] (kvOf (K.zip (upTo K.length))) = some t) (T : List Bool) : getF t 0 0 T = getOf (kvOf (K.zip (upTo K.length))) T := by
  rcases build_iff (ns := upTo K.length) (by rw [upTo_length]) hK.2.1 with ⟨h1, _⟩ | ⟨t', lab, h1, -, h2, h3⟩
  · rw [h1] at hb; cases hb
  · rw [h1] at hb
    injection hb with hb
    subst hb
    have hk : kvOf (K.zip (upTo K.length)) ≠ [] := fun e => by
      have := congrArg List.length e
      rw [kvOf_length] at this
      simp [upTo_length] at this
      exact h0 this
    have := getF_law h2 h3 hk T 0 [] h2.root (fun c hm hp => kvOf_ne hK.2.1 c hm (List.prefix_nil.1 hp))
    rw [List.nil_append] at this
    exact this
end
end Go.Mine
