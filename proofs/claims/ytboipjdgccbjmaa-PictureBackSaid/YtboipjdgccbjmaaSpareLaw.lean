/-
  Bits at a place; spare bytes that were put are got, in plain Lean.
-/
import Derived.Test.YtboipjdgccbjmaaSpares
namespace Go.Mine
open Go.RowKit
/-- These bits stand there. -/
def BitsAt (bs : List UInt8) (p : Nat) (l : List Nat) : Prop := p + l.length ≤ 8 * bs.length ∧ ∀ j x, l[j]? = some x → bitAt bs (p + j) = x
theorem BitsAt.left {bs : List UInt8} {p : Nat} {a b : List Nat} (h : BitsAt bs p (a ++ b)) : BitsAt bs p a := by
  obtain ⟨h1, h2⟩ := h
  rw [List.length_append] at h1
  exact ⟨by omega, fun j x hj => h2 j x (by rw [List.getElem?_append_left (List.getElem?_eq_some_iff.1 hj).1]; exact hj)⟩
theorem BitsAt.right {bs : List UInt8} {p : Nat} {a b : List Nat} (h : BitsAt bs p (a ++ b)) : BitsAt bs (p + a.length) b := by
  obtain ⟨h1, h2⟩ := h
  rw [List.length_append] at h1
  exact ⟨by omega, fun j x hj => by
    have := h2 (a.length + j) x (by rw [List.getElem?_append_right (by omega), Nat.add_sub_cancel_left]; exact hj)
    rwa [← Nat.add_assoc] at this⟩
theorem BitsAt.join {bs : List UInt8} {p : Nat} {a b : List Nat} (h : BitsAt bs p a) (h' : BitsAt bs (p + a.length) b) : BitsAt bs p (a ++ b) := by
  refine ⟨by have := h'.1; rw [List.length_append]; omega, fun j x hj => ?_⟩
  rcases Nat.lt_or_ge j a.length with hlt | hge
  · rw [List.getElem?_append_left hlt] at hj; exact h.2 j x hj
  · rw [List.getElem?_append_right hge] at hj
    have := h'.2 _ x hj
    rwa [show p + a.length + (j - a.length) = p + j by omega] at this
theorem BitsAt.one {bs : List UInt8} {p x : Nat} (h : BitsAt bs p [x]) : numAt bs p 1 = x := by
  have := h.2 0 x rfl
  simpa [numAt] using this
theorem BitsAt.of_one {bs : List UInt8} {p : Nat} (h : p + 1 ≤ 8 * bs.length) : BitsAt bs p [numAt bs p 1] :=
  ⟨h, fun j x hj => by
    cases j with
    | zero => simp at hj; rw [← hj]; simp [numAt]
    | succ j => simp at hj⟩
theorem num_of_bits {bs : List UInt8} (p k n : Nat) (hn : n < 2 ^ k) (h : ∀ t, t < k → bitAt bs (p + t) = n / 2 ^ (k - 1 - t) % 2) : numAt bs p k = n := by
  induction k generalizing n with
  | zero => simp at hn; simp [numAt, hn]
  | succ k ih =>
    rw [numAt]
    have h1 := ih (n / 2) (by rw [Nat.pow_succ] at hn; omega) (fun t ht => by
      rw [h t (by omega), Nat.div_div_eq_div_mul, ← Nat.pow_succ']
      congr 3
      omega)
    have h2 := h k (by omega)
    rw [h1, h2]
    simp
    omega
theorem bits_of_num (bs : List UInt8) (p k : Nat) : ∀ t, t < k → bitAt bs (p + t) = numAt bs p k / 2 ^ (k - 1 - t) % 2 := by
  induction k with
  | zero => intro t ht; omega
  | succ k ih =>
    intro t ht
    have hb := bitAt_lt bs (p + k)
    rw [numAt]
    rcases Nat.lt_or_ge t k with hlt | hge
    · rw [ih t hlt, show k + 1 - 1 - t = (k - 1 - t) + 1 by omega, Nat.pow_succ', ← Nat.div_div_eq_div_mul]
      congr 2
      omega
    · obtain rfl : t = k := by omega
      simp
      omega
theorem BitsAt.num {bs : List UInt8} {p k n : Nat} (h : BitsAt bs p (bitsOf n k)) (hn : n < 2 ^ k) : numAt bs p k = n :=
  num_of_bits p k n hn fun t ht => h.2 t _ (bitsOf_get n k t ht)
theorem BitsAt.of_num {bs : List UInt8} {p k : Nat} (h : p + k ≤ 8 * bs.length) : BitsAt bs p (bitsOf (numAt bs p k) k) :=
  ⟨by rw [bitsOf_length]; exact h, fun j x hj => by
    have hl := (List.getElem?_eq_some_iff.1 hj).1
    rw [bitsOf_length] at hl
    rw [bitsOf_get _ k j hl] at hj
    injection hj with hj
    rw [bits_of_num bs p k j hl, hj]⟩
theorem BitsAt.room {bs : List UInt8} {p : Nat} {l : List Nat} (h : BitsAt bs p l) : p + l.length ≤ 8 * bs.length := h.1
/-- Bits that were packed. -/
theorem BitsAt.pack {P l R : List Nat} (hb : Bin (P ++ l ++ R)) : BitsAt (pack (P ++ l ++ R)) P.length l := by
  have hlen : (P ++ l ++ R).length = P.length + l.length + R.length := by simp; omega
  refine ⟨by rw [pack_length]; omega, fun j x hj => ?_⟩
  have hl := (List.getElem?_eq_some_iff.1 hj).1
  rw [bitAt_pack hb _ (by omega), List.getD_eq_getElem?_getD, List.append_assoc, List.getElem?_append_right (by omega), Nat.add_sub_cancel_left, List.getElem?_append_left hl, hj]
  rfl

theorem spareBits_cons (a : UInt8) (l : List UInt8) : spareBits (a :: l) = [1] ++ (bitsOf a.toNat 8 ++ spareBits l) := by
  simp [spareBits, spareOne]
theorem u8_ofNat_toNat (a : UInt8) : UInt8.ofNat a.toNat = a := UInt8.ofNat_toNat
theorem sparesF_put {bs : List UInt8} {l : List UInt8} : ∀ {r p : Nat}, BitsAt bs p (spareBits l) → l.length ≤ r → sparesF bs r p = (0, l) := by
  induction l with
  | nil =>
    intro r p h hr
    have h1 : BitsAt bs p [0] := h
    exact sparesF_end (by have := h1.room; simp at this; omega) h1.one
  | cons a l ih =>
    intro r p h hr
    rw [spareBits_cons] at h
    have h1 := h.left
    have h2 := h.right.left
    have h3 := h.right.right
    rw [bitsOf_length] at h3
    have hroom := h2.room
    rw [bitsOf_length] at hroom
    simp only [List.length_cons, List.length_nil, Nat.zero_add] at h2 h3 hroom hr
    obtain ⟨r, rfl⟩ : ∃ k, r = k + 1 := ⟨r - 1, by omega⟩
    rw [sparesF_step (by rw [h1.one]; decide) (by omega), ih (by rwa [Nat.add_assoc] at h3) (by omega), h2.num (UInt8.toNat_lt a), u8_ofNat_toNat]
theorem sparesF_got {bs : List UInt8} : ∀ {r p : Nat} {l : List UInt8}, sparesF bs r p = (0, l) → BitsAt bs p (spareBits l) ∧ l.length ≤ r := by
  intro r
  induction r with
  | zero =>
    intro p l h
    by_cases h1 : 8 * bs.length < p + 1
    · rw [sparesF_more h1] at h; simp at h
    · by_cases h0 : numAt bs p 1 = 0
      · rw [sparesF_end h1 h0] at h
        injection h with _ h
        subst h
        have := BitsAt.of_one (bs := bs) (p := p) (by omega)
        rw [h0] at this
        exact ⟨this, by simp⟩
      · rw [sparesF_long h1 h0] at h; simp at h
  | succ r ih =>
    intro p l h
    by_cases h1 : 8 * bs.length < p + 1
    · rw [sparesF_more h1] at h; simp at h
    · by_cases h0 : numAt bs p 1 = 0
      · rw [sparesF_end h1 h0] at h
        injection h with _ h
        subst h
        have := BitsAt.of_one (bs := bs) (p := p) (by omega)
        rw [h0] at this
        exact ⟨this, by simp⟩
      · by_cases h9 : 8 * bs.length < p + 9
        · rw [sparesF_more9 h1 h0 h9] at h; simp at h
        · rw [sparesF_step h0 h9] at h
          injection h with h2 h3
          subst h3
          obtain ⟨hi, hl⟩ := ih (p := p + 9) (l := (sparesF bs r (p + 9)).2) (by rw [← h2])
          have hn1 : numAt bs p 1 = 1 := by have := numAt_lt bs p 1; omega
          have hb1 := BitsAt.of_one (bs := bs) (p := p) (by omega)
          rw [hn1] at hb1
          have hlt := numAt_lt bs (p + 1) 8
          have hb8 := BitsAt.of_num (bs := bs) (p := p + 1) (k := 8) (by omega)
          refine ⟨?_, by simp; omega⟩
          rw [spareBits_cons, UInt8.toNat_ofNat_of_lt' (by simpa using hlt)]
          refine hb1.join (hb8.join ?_)
          rw [bitsOf_length]
          exact hi
/-- Fewer bits: too few. -/
theorem sparesF_short {bs cs : List UInt8} (hc : ∀ i, i < 8 * cs.length → bitAt cs i = bitAt bs i) {l : List UInt8} : ∀ {r p : Nat}, BitsAt bs p (spareBits l) → 8 * cs.length < p + 9 * l.length + 1 → l.length ≤ r → (sparesF cs r p).1 = 5 := by
  induction l with
  | nil => intro r p h hs hr; rw [sparesF_more (by simpa using hs)]
  | cons a l ih =>
    intro r p h hs hr
    by_cases h1 : 8 * cs.length < p + 1
    · rw [sparesF_more h1]
    · rw [spareBits_cons] at h
      have h2 := h.left.one
      have h3 := h.right.right
      rw [bitsOf_length] at h3
      simp only [List.length_cons, List.length_nil, Nat.zero_add] at h3 hr hs
      obtain ⟨r, rfl⟩ : ∃ k, r = k + 1 := ⟨r - 1, by omega⟩
      have h4' : numAt cs p 1 = numAt bs p 1 := by simp [numAt]; exact hc p (by omega)
      have h4 : numAt cs p 1 = 1 := by rw [h4', h2]
      by_cases h9 : 8 * cs.length < p + 9
      · rw [sparesF_more9 h1 (by rw [h4]; decide) h9]
      · rw [sparesF_step (by rw [h4]; decide) h9]
        exact ih (by rwa [Nat.add_assoc] at h3) (by omega) (by omega)
/-- More than so many. -/
theorem sparesF_over {bs : List UInt8} {l : List UInt8} : ∀ {r p : Nat}, BitsAt bs p (l.flatMap spareOne ++ [1]) → l.length = r → (sparesF bs r p).1 = 4 := by
  induction l with
  | nil =>
    intro r p h hr
    have h1 : BitsAt bs p [1] := h
    subst hr
    rw [List.length_nil, sparesF_long (by have := h1.room; simp at this; omega) (by rw [h1.one]; decide)]
  | cons a l ih =>
    intro r p h hr
    rw [show (a :: l).flatMap spareOne ++ [1] = [1] ++ (bitsOf a.toNat 8 ++ (l.flatMap spareOne ++ [1])) by simp [spareOne]] at h
    have h1 := h.left
    have h2 := h.right.left
    have h3 := h.right.right
    rw [bitsOf_length] at h3
    have hroom := h2.room
    rw [bitsOf_length] at hroom
    simp only [List.length_cons, List.length_nil, Nat.zero_add] at h2 h3 hroom hr
    obtain ⟨r, rfl⟩ : ∃ k, r = k + 1 := ⟨r - 1, by omega⟩
    rw [sparesF_step (by rw [h1.one]; decide) (by omega)]
    exact ih (by rwa [Nat.add_assoc] at h3) (by omega)

end Go.Mine
