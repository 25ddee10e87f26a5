/-
  Law 17: what was put is got, in plain Lean.
-/
import Derived.Test.YtboipjdgccbjmaaPicGet
import Derived.Test.YtboipjdgccbjmaaPicPut
import Derived.Test.YtboipjdgccbjmaaSpareLaw
namespace Go.Mine
open Go.RowKit
theorem spareBits_bin (s : List UInt8) : Bin (spareBits s) := fun x hx => by
  rw [spareBits] at hx
  rcases List.mem_append.1 hx with h | h
  · obtain ⟨a, -, h⟩ := List.mem_flatMap.1 h
    rw [spareOne] at h
    rcases List.mem_cons.1 h with h | h
    · omega
    · exact bitsOf_bin _ _ x h
  · simp at h; omega
theorem picBits_bin (t y : Nat) (s : List UInt8) : Bin (picBits t y s) := ((bitsOf_bin _ _).append (bitsOf_bin _ _)).append (spareBits_bin _)
theorem sparesF_err {bs : List UInt8} : ∀ {r p : Nat}, (sparesF bs r p).1 = 0 ∨ (sparesF bs r p).1 = 4 ∨ (sparesF bs r p).1 = 5
  | 0, p => by
    unfold sparesF
    split
    · exact .inr (.inr rfl)
    · split
      · exact .inl rfl
      · exact .inr (.inl rfl)
  | r + 1, p => by
    unfold sparesF
    split
    · exact .inr (.inr rfl)
    · split
      · exact .inl rfl
      · split
        · exact .inr (.inr rfl)
        · exact sparesF_err
theorem sparesOf_err {bs : List UInt8} {p : Nat} : (sparesOf bs p).1 = 0 ∨ (sparesOf bs p).1 = 4 ∨ (sparesOf bs p).1 = 5 := by
  unfold sparesOf
  split
  · exact .inl rfl
  · exact sparesF_err
theorem sparesOf_got {bs : List UInt8} {p n : Nat} {l : List UInt8} (h : sparesOf bs p = (0, l, n)) : BitsAt bs p (spareBits l) ∧ l.length ≤ 32 ∧ n = 9 * l.length + 1 := by
  unfold sparesOf at h
  split at h
  · rename_i h0
    injection h with _ h
    injection h with h1 h2
    have hso : sparesF bs 32 p = (0, l) := Prod.ext h0 h1
    obtain ⟨h3, h4⟩ := sparesF_got hso
    exact ⟨h3, h4, by rw [← h2, h1]⟩
  · rename_i h0
    injection h with h _
    exact absurd h h0
theorem sparesOf_put {bs : List UInt8} {p : Nat} {l : List UInt8} (h : BitsAt bs p (spareBits l)) (hl : l.length ≤ 32) : sparesOf bs p = (0, l, 9 * l.length + 1) := by
  have hs := sparesF_put h hl
  unfold sparesOf
  rw [hs]
  simp
theorem picN_got {bs : List UInt8} {i t y n : Nat} {l : List UInt8} (h : picN bs i = (t, y, l, n, 0)) : BitsAt bs i (picBits t y l) ∧ t ≤ 31 ∧ y ≤ 63 ∧ l.length ≤ 32 ∧ n = 12 + 9 * l.length := by
  unfold picN at h
  split at h
  · simp at h
  · rename_i hr
    split at h
    · rename_i hz
      injection h with ht h
      injection h with hy h
      injection h with hl h
      injection h with hn _
      obtain ⟨⟨er, l', m⟩, hS⟩ : ∃ r, sparesOf bs (i + 11) = r := ⟨_, rfl⟩
      rw [hS] at hz hl hn
      simp only at hz hl hn
      subst hz hl
      obtain ⟨h3, h4, h5⟩ := sparesOf_got hS
      have hb5 := BitsAt.of_num (bs := bs) (p := i) (k := 5) (by omega)
      have hb6 := BitsAt.of_num (bs := bs) (p := i + 5) (k := 6) (by omega)
      have l5 := numAt_lt bs i 5
      have l6 := numAt_lt bs (i + 5) 6
      rw [ht] at hb5 l5
      rw [hy] at hb6 l6
      refine ⟨(hb5.join (by rw [bitsOf_length]; exact hb6)).join ?_, by omega, by omega, h4, by omega⟩
      rw [List.length_append, bitsOf_length, bitsOf_length]
      exact h3
    · rename_i hz
      injection h with _ h
      injection h with _ h
      injection h with _ h
      injection h with _ h
      exact absurd h hz
theorem picN_put {bs : List UInt8} {i t y : Nat} {l : List UInt8} (h : BitsAt bs i (picBits t y l)) (ht : t ≤ 31) (hy : y ≤ 63) (hl : l.length ≤ 32) : picN bs i = (t, y, l, 12 + 9 * l.length, 0) := by
  have h5 := h.left.left.num (by omega)
  have h6 := h.left.right
  have hs := h.right
  rw [bitsOf_length] at h6
  rw [List.length_append, bitsOf_length, bitsOf_length] at hs
  have hr6 := h6.room
  rw [bitsOf_length] at hr6
  have h6' := h6.num (by omega)
  have hso := sparesOf_put hs hl
  rw [show i + (5 + 6) = i + 11 by omega] at hso
  rw [picN, if_neg (by omega), hso, if_pos rfl, h5, h6']
  simp only
  congr 4
  omega
theorem picN_fault {bs : List UInt8} {i : Nat} (h : (picN bs i).2.2.2.2 ≠ 0) : picN bs i = (0, 0, [], 0, (picN bs i).2.2.2.2) ∧ ((picN bs i).2.2.2.2 = 5 ∨ (picN bs i).2.2.2.2 = 4) := by
  unfold picN at h ⊢
  split
  · exact ⟨rfl, .inl rfl⟩
  · rename_i h1
    rw [if_neg h1] at h
    split
    · rename_i h2; rw [if_pos h2] at h; simp at h
    · rename_i h2
      refine ⟨rfl, ?_⟩
      rcases sparesOf_err (bs := bs) (p := i + 11) with h3 | h3 | h3
      · exact absurd h3 h2
      · exact .inr h3
      · exact .inl h3
theorem picN_short {bs cs : List UInt8} (hc : ∀ j, j < 8 * cs.length → bitAt cs j = bitAt bs j) {i t y : Nat} {l : List UInt8} (h : BitsAt bs i (picBits t y l)) (hl : l.length ≤ 32) (hs : 8 * cs.length < i + (12 + 9 * l.length)) : picN cs i = (0, 0, [], 0, 5) := by
  by_cases hm : 8 * cs.length < i + 11
  · rw [picN, if_pos hm]
  · have h7 := h.right
    rw [List.length_append, bitsOf_length, bitsOf_length] at h7
    have h8 := sparesF_short hc h7 (r := 32) (by omega) hl
    have hso : sparesOf cs (i + 11) = (5, [], 0) := by unfold sparesOf; rw [show i + (5 + 6) = i + 11 by omega] at h8; rw [h8]; simp
    rw [picN, if_neg hm, hso, if_neg (by simp)]
end Go.Mine
