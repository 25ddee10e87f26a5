/-
  Law 03: which texts are taken, one behind the other; that they are a tree. Plain.
-/
import Derived.Test.YtheihohojmcbiaaPrefixLaw
namespace Go.Mine
open Go.RowKit

/-- Begins one of two texts the other? -/
def sameTo (a b : List UInt8) : Bool := decide (a.take (min a.length b.length) = b.take (min a.length b.length))
theorem sameTo_iff (a b : List UInt8) : sameTo a b = true ↔ a <+: b ∨ b <+: a := by
  unfold sameTo
  rw [decide_eq_true_iff]
  constructor
  · intro h
    rcases Nat.le_total a.length b.length with hl | hl
    · rw [Nat.min_eq_left hl, List.take_length] at h
      exact .inl (List.prefix_iff_eq_take.2 h)
    · rw [Nat.min_eq_right hl, List.take_length] at h
      exact .inr (List.prefix_iff_eq_take.2 h.symm)
  · rintro (h | h)
    · have hl := h.length_le
      rw [Nat.min_eq_left hl, List.take_length]
      exact List.prefix_iff_eq_take.1 h
    · have hl := h.length_le
      rw [Nat.min_eq_right hl, List.take_length]
      exact (List.prefix_iff_eq_take.1 h).symm
/-- Does a text fit those taken ahead? -/
def fits (kept : List (List UInt8)) (s : List UInt8) : Bool := codeB s && kept.all fun k => !sameTo k s
/-- Those that are taken. -/
def takeIn : List (List UInt8) → List (List UInt8) → List (List UInt8)
  | kept, [] => kept
  | kept, s :: l => if kept.length < 40 then takeIn (if fits kept s then kept ++ [s] else kept) l else kept
theorem takeIn_full {kept : List (List UInt8)} (h : ¬ kept.length < 40) : ∀ l, takeIn kept l = kept
  | [] => rfl
  | s :: l => by rw [takeIn, if_neg h]
theorem takeIn_step {kept cs : List (List UInt8)} {k : Nat} (hk : k < cs.length) (h : kept.length < 40) : takeIn kept (cs.drop k) = takeIn (if fits kept (cs[k]'hk) then kept ++ [cs[k]'hk] else kept) (cs.drop (k + 1)) := by
  rw [List.drop_eq_getElem_cons hk, takeIn, if_pos h]
/-- They are codes, of which none begins another one. -/
def KeptOk (kept : List (List UInt8)) : Prop := kept.length ≤ 40 ∧ kept.all codeB = true ∧ kept.Pairwise fun a b => ¬ a <+: b ∧ ¬ b <+: a
theorem KeptOk.nil : KeptOk [] := ⟨by simp, by simp, List.Pairwise.nil⟩
theorem KeptOk.more {kept : List (List UInt8)} {s : List UInt8} (h : KeptOk kept) (hl : kept.length < 40) (hf : fits kept s = true) : KeptOk (kept ++ [s]) := by
  obtain ⟨_, h2, h3⟩ := h
  simp only [fits, Bool.and_eq_true, List.all_eq_true, Bool.not_eq_true'] at hf
  refine ⟨by simp; omega, by simp only [List.all_append, List.all_cons, List.all_nil, Bool.and_true, Bool.and_eq_true]; exact ⟨h2, hf.1⟩, ?_⟩
  rw [List.pairwise_append]
  refine ⟨h3, List.pairwise_singleton _ _, fun a ha b hb => ?_⟩
  obtain rfl := List.mem_singleton.1 hb
  have := hf.2 a ha
  have hn : ¬ (a <+: b ∨ b <+: a) := fun hp => by rw [(sameTo_iff a b).2 hp] at this; cases this
  exact ⟨fun hp => hn (.inl hp), fun hp => hn (.inr hp)⟩
theorem takeIn_ok : ∀ (l kept : List (List UInt8)), KeptOk kept → KeptOk (takeIn kept l)
  | [], kept, h => h
  | s :: l, kept, h => by
    rw [takeIn]
    by_cases hl : kept.length < 40
    · rw [if_pos hl]
      refine takeIn_ok l _ ?_
      by_cases hf : fits kept s = true
      · rw [if_pos hf]; exact h.more hl hf
      · rw [if_neg hf]; exact h
    · rw [if_neg hl]; exact h
/-- 0, 1, .. -/
def upTo (n : Nat) : List Int := (List.range n).map fun (j : Nat) => (j : Int)
theorem upTo_length (n : Nat) : (upTo n).length = n := by simp [upTo]
theorem upTo_succ (n : Nat) : upTo (n + 1) = upTo n ++ [(n : Int)] := by simp [upTo, List.range_succ]
theorem upTo_get {n j : Nat} (h : j < (upTo n).length) : (upTo n)[j]'h = (j : Int) := by simp [upTo]
theorem KeptOk.not_clash {kept : List (List UInt8)} (h : KeptOk kept) : ¬ Clash kept := by
  rintro ⟨i, k, hi, hk, hne, hp⟩
  have gi : kept.getD i [] = kept[i]'hi := by rw [List.getD_eq_getElem?_getD, List.getElem?_eq_getElem hi]; rfl
  have gk : kept.getD k [] = kept[k]'hk := by rw [List.getD_eq_getElem?_getD, List.getElem?_eq_getElem hk]; rfl
  rw [gi, gk, List.isPrefixOf_iff_prefix] at hp
  have hpw := List.pairwise_iff_getElem.1 h.2.2
  rcases Nat.lt_or_gt_of_ne hne with hlt | hlt
  · exact (hpw i k hi hk hlt).2 hp
  · exact (hpw k i hk hi hlt).1 hp
/-- Their tree is built. -/
theorem KeptOk.build {kept : List (List UInt8)} (h : KeptOk kept) : ∃ t, build [TNode.mt] (kvOf (kept.zip (upTo kept.length))) = some t := by
  rcases build_iff (ns := upTo kept.length) (by rw [upTo_length]) h.2.1 with ⟨_, hc⟩ | ⟨t, _, ht, _⟩
  · exact absurd hc h.not_clash
  · exact ⟨t, ht⟩
theorem kept_zip (kept : List (List UInt8)) {j : Nat} (h : j < kept.length) : (kept.zip (upTo kept.length))[j]? = some (kept[j]'h, (j : Int)) := by
  rw [List.getElem?_eq_getElem (by simp [upTo_length]; omega)]
  simp [upTo]
/-- Each number's text. -/
theorem told_kept (kept : List (List UInt8)) {j : Nat} (h : j < kept.length) : told (kept.zip (upTo kept.length)) (j : Int) = some (str (kept[j]'h)) := by
  have hl : (kept.zip (upTo kept.length)).length = kept.length := by simp [upTo_length]
  have hd : ∀ i (hi : i < kept.length), (kept.zip (upTo kept.length)).getD i ([], 0) = (kept[i]'hi, (i : Int)) := fun i hi => by
    rw [List.getD_eq_getElem?_getD, kept_zip kept hi]; rfl
  have := told_hit (zs := kept.zip (upTo kept.length)) (x := (j : Int)) (k := j) (by rw [hl]; exact h) (fun i hi => by rw [hd i (by omega)]; simp; omega) (by rw [hd j h])
  rw [hd j h] at this
  exact this
end Go.Mine
