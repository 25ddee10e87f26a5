/-
  Law 18: what was put is got, in plain Lean.
-/
import Derived.Test.YtejomjkkjcnfnaaGroupOpen
import Derived.Test.YtejomjkkjcnfnaaSpareLaw
namespace Go.Mine
open Go.RowKit
/-- The bits of a header. -/
def headBits (q : Nat) (l : List UInt8) : List Nat := bitsOf q 5 ++ spareBits l
theorem headBits_length (q : Nat) (l : List UInt8) : (headBits q l).length = 6 + 9 * l.length := by rw [headBits, List.length_append, bitsOf_length, spareBits_length]; omega
theorem getN_put {bs : List UInt8} {p q : Nat} {l : List UInt8} (h : BitsAt bs p (headBits q l)) (hq : 1 ≤ q) (hq2 : q ≤ 31) (hl : l.length ≤ 32) : getN bs p = (q, l, 6 + 9 * l.length, 0) := by
  have h1 := h.left.num (by omega)
  have h2 := h.right
  have hr := h.left.room
  rw [bitsOf_length] at h2 hr
  have hs := sparesF_put h2 hl
  have hso : sparesOf bs (p + 5) = (0, l, 9 * l.length + 1) := by unfold sparesOf; rw [hs]; simp
  unfold getN
  rw [if_neg (by omega), h1, if_neg (by omega), hso, if_pos rfl]
  simp only
  congr 3
  omega
theorem getN_got {bs : List UInt8} {p q n : Nat} {l : List UInt8} (h : getN bs p = (q, l, n, 0)) : BitsAt bs p (headBits q l) ∧ 1 ≤ q ∧ q ≤ 31 ∧ l.length ≤ 32 ∧ n = 6 + 9 * l.length := by
  have hb := getN_bound (bs := bs) (i := p) (by rw [h])
  rw [h] at hb
  obtain ⟨h1, h2, h3, h4, h5, h6⟩ := hb
  simp only at h1 h2 h3 h4 h5 h6
  refine ⟨?_, h4, h5, h6, h3⟩
  unfold getN at h
  split at h
  · simp at h
  · rename_i hr
    split at h
    · simp at h
    · split at h
      · rename_i hz
        injection h with hq h
        injection h with hl h
        have hso : sparesF bs 32 (p + 5) = (0, l) := by
          unfold sparesOf at hl hz
          split at hl
          · rename_i h0
            rw [if_pos h0] at hz
            exact Prod.ext h0 hl
          · rename_i h0
            rw [if_neg h0] at hz
            exact absurd hz h0
        have hbn := BitsAt.of_num (bs := bs) (p := p) (k := 5) (by omega)
        rw [hq] at hbn
        refine hbn.join ?_
        rw [bitsOf_length]
        exact (sparesF_got hso).1
      · rename_i hz
        injection h with _ h
        injection h with _ h
        injection h with _ h
        exact absurd h hz
theorem getN_short {bs cs : List UInt8} (hc : ∀ i, i < 8 * cs.length → bitAt cs i = bitAt bs i) {q n : Nat} {l : List UInt8} (h : getN bs 0 = (q, l, n, 0)) (hs : 8 * cs.length < n) : getN cs 0 = (0, [], 0, 5) := by
  obtain ⟨h1, h2, h3, h4, h5⟩ := getN_got h
  by_cases h6 : 8 * cs.length < 0 + 5
  · rw [getN, if_pos h6]
  · have hq : numAt cs 0 5 = q := by
      rw [← h1.left.num (by omega)]
      simp only [numAt]
      rw [hc 0 (by omega), hc 1 (by omega), hc 2 (by omega), hc 3 (by omega), hc 4 (by omega)]
    have h7 := h1.right
    rw [bitsOf_length] at h7
    have h8 := sparesF_short hc h7 (by omega) h4
    have hso : sparesOf cs (0 + 5) = (5, [], 0) := by unfold sparesOf; rw [h8]; simp
    rw [getN, if_neg h6, hq, if_neg (by omega), hso, if_neg (by simp)]
theorem getN_over {bs : List UInt8} {p q : Nat} {l : List UInt8} (h : BitsAt bs p (bitsOf q 5 ++ (l.flatMap spareOne ++ [1]))) (hq : 1 ≤ q) (hq2 : q ≤ 31) (hl : l.length = 32) : getN bs p = (0, [], 0, 4) := by
  have h1 := h.left.num (by omega)
  have h2 := h.right
  have hr := h.left.room
  rw [bitsOf_length] at h2 hr
  have hs := sparesF_over h2 hl
  have hso : sparesOf bs (p + 5) = (4, [], 0) := by unfold sparesOf; rw [hs]; simp
  rw [getN, if_neg (by omega), h1, if_neg (by omega), hso, if_neg (by simp)]
theorem getN_fault {bs : List UInt8} {p : Nat} (h : (getN bs p).2.2.2 ≠ 0) : getN bs p = (0, [], 0, (getN bs p).2.2.2) := by
  unfold getN at h ⊢
  split
  · rfl
  · rename_i h1
    rw [if_neg h1] at h
    split
    · rfl
    · rename_i h2
      rw [if_neg h2] at h
      split
      · rename_i h3; rw [if_pos h3] at h; simp at h
      · rfl
/-- A whole header behind noughts. -/
theorem openAll_put {bs : List UInt8} {k n q : Nat} {l : List UInt8} (h : BitsAt bs 0 (List.replicate k 0 ++ (bitsOf 1 16 ++ bitsOf n 4 ++ headBits q l))) (hn : 1 ≤ n) (hn2 : n ≤ 15) (hq : 1 ≤ q) (hq2 : q ≤ 31) (hl : l.length ≤ 32) :
    openAll bs 0 = ((n : Int), q, l, ((k + (20 + (6 + 9 * l.length)) : Nat) : Int), 0) := by
  have h1 : BitsAt bs 0 (List.replicate k 0) := h.left
  have h2 := h.right
  rw [List.length_replicate, Nat.zero_add] at h2
  have h3 : BitsAt bs k (bitsOf 1 16) := h2.left.left
  have h4 := h2.left.right
  have h5 := h2.right
  rw [bitsOf_length] at h4
  rw [List.length_append, bitsOf_length, bitsOf_length] at h5
  have hr4 := h4.room
  rw [bitsOf_length] at hr4
  have e16 : bitsOf 1 16 = [0, 0, 0, 0, 0, 0, 0, 0, 0, 0, 0, 0, 0, 0, 0, 1] := by decide
  rw [e16] at h3
  have hz : ∀ j, j < k + 15 → bitAt bs (0 + j) = 0 := fun j hj => by
    rcases Nat.lt_or_ge j k with hlt | hge
    · exact h1.2 j 0 (by simp [hlt])
    · have := h3.2 (j - k) 0 ((by decide : ∀ t, t < 15 → ([0, 0, 0, 0, 0, 0, 0, 0, 0, 0, 0, 0, 0, 0, 0, 1] : List Nat)[t]? = some 0) (j - k) (by omega))
      rwa [show k + (j - k) = 0 + j by omega] at this
  have ho : bitAt bs (0 + (k + 15)) = 1 := by
    have := h3.2 15 1 rfl
    rwa [show 0 + (k + 15) = k + 15 by omega]
  have hst := startOf_ok hz ho (by omega) (by omega)
  rw [show 0 + (k + 15) + 1 = k + 16 by omega, h4.num (by omega)] at hst
  have hsa : startAll bs 0 = ((n : Int), ((k + 20 : Nat) : Int), 0) := by
    rw [startAll, if_neg (by omega), show (0 : Int).toNat = 0 from rfl, hst]
    exact Prod.ext rfl (Prod.ext (by simp only; push_cast; omega) rfl)
  have hga : getAll bs (0 + ((k + 20 : Nat) : Int)) = (q, l, 6 + 9 * l.length, 0) := by
    rw [getAll, if_neg (by omega), Int.zero_add, Int.toNat_natCast, getN_put (by rwa [show k + (16 + 4) = k + 20 by omega] at h5) hq hq2 hl]
  unfold openAll
  rw [hsa]
  simp only
  rw [if_neg (by simp), if_neg (by omega), hga, if_neg (by simp)]
  congr 4
  push_cast
  omega
end Go.Mine
