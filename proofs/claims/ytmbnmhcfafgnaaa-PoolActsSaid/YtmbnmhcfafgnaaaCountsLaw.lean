/-
  Law 23: how many frames are whose: what PoolCounts asks of the frames. Plain.
-/
import Derived.Test.YtmbnmhcfafgnaaaPoolGo
namespace Go.Proofs.Ytmbnmhcfafgnaaa
open Go.RowKit Go.Mine

theorem cnt_sum {fs : List Fr} (h : ∀ f ∈ fs, 0 ≤ f.owner ∧ f.owner ≤ 4) : cntO fs 0 + (cntO fs 1 + cntO fs 2 + cntO fs 3 + cntO fs 4) = fs.length := by
  induction fs with
  | nil => rfl
  | cons f fs ih =>
    have h1 := ih fun g hg => h g (List.mem_cons_of_mem _ hg)
    have h2 := h f List.mem_cons_self
    unfold cntO at *
    simp only [List.countP_cons, beq_iff_eq, List.length_cons]
    have h3 : f.owner = 0 ∨ f.owner = 1 ∨ f.owner = 2 ∨ f.owner = 3 ∨ f.owner = 4 := by omega
    rcases h3 with e | e | e | e | e <;> simp only [e] <;> simp <;> omega
theorem cnt_free {fs : List Fr} {i : Nat} {f : Fr} (h : f.owner = 0 ∨ f.owner = (frAt fs i).owner) {x : Int} (hx : 0 < x) : cntO (fs.set i f) x ≤ cntO fs x := by
  by_cases hi : i < fs.length
  · have := cntO_set fs hi f x
    rcases h with h | h
    · rw [h, if_neg (show ¬ (0 : Int) = x by omega)] at this
      omega
    · rw [h] at this
      omega
  · rw [List.set_eq_of_length_le (by omega)]
    exact Nat.le_refl _
theorem held_le_of {fs fs' : List Fr} (h : ∀ x, 0 < x → cntO fs' x ≤ cntO fs x) (o : Int) : heldN fs' o ≤ heldN fs o := by
  unfold heldN
  split
  · have := h o (by assumption)
    omega
  · omega
/-- What the law's acts keep of the frames. -/
structure CP (fs : List Fr) (N : Nat) (q H : Int) : Prop where
  len : fs.length = N
  ok : OkF fs H
  own : ∀ i, i < N → (frAt fs i).owner ≤ 4
  quo : ∀ o, heldN fs o ≤ q
section
variable {fs : List Fr} {N : Nat} {q H : Int}
theorem CP.empty (N : Nat) (q : Int) (hq : 0 ≤ q) : CP (emptyFs N) N q 0 := ⟨List.length_replicate, OkF.empty N, fun i _ => by rw [emptyFs_at]; decide, fun o => by
  unfold heldN
  split
  · rw [emptyFs_cnt N (by omega)]; exact hq
  · exact hq⟩
theorem CP.mono (h : CP fs N q H) {H' : Int} (hh : H ≤ H') : CP fs N q H' := ⟨h.len, h.ok.mono hh, h.own, h.quo⟩
theorem acqE_ok {o : Int} (h : acqE fs q o = 0) : (1 ≤ o ∧ o ≤ 2147483647) ∧ heldN fs o < q ∧ ∃ i l, freeI fs = i :: l ∧ acqN fs q o = i ∧ acqS fs q o = fs.set i ⟨o, 1, (frAt fs i).data⟩ ∧ i < fs.length ∧ (frAt fs i).owner = 0 := by
  have h' := h
  unfold acqE at h
  split at h
  · rename_i h1
    split at h
    · rename_i h2
      split at h
      · cases h
      · rename_i h3
        obtain ⟨i, l, hl⟩ : ∃ i l, freeI fs = i :: l := by
          cases e : freeI fs with
          | nil => exact absurd e h3
          | cons i l => exact ⟨i, l, rfl⟩
        obtain ⟨e1, e2⟩ := acq_ok h' hl
        obtain ⟨h5, h6⟩ := mem_freeI.1 (show i ∈ freeI fs by rw [hl]; exact List.mem_cons_self)
        exact ⟨h1, h2, i, l, hl, e1, e2, h5, h6⟩
    · cases h
  · cases h
theorem CP.acq (h : CP fs N q H) (hH : 1 ≤ H) {o : Int} (ho : o ≤ 4) : CP (acqS fs q o) N q H := by
  by_cases he : acqE fs q o = 0
  · obtain ⟨h1, h2, i, l, hl, e1, e2, hi, h0⟩ := acqE_ok he
    have hk := h.ok.acq hH q o
    rw [e2] at hk ⊢
    refine ⟨by rw [List.length_set]; exact h.len, hk, fun j hj => ?_, fun x => ?_⟩
    · by_cases e : i = j
      · subst e; rw [frAt_set_same hi]; exact ho
      · rw [frAt_set_ne e]; exact h.own j hj
    · have hc := cntO_set fs hi ⟨o, 1, (frAt fs i).data⟩ x
      have hq := h.quo x
      unfold heldN at h2 hq ⊢
      by_cases hx : 0 < x
      · rw [if_pos hx] at hq ⊢
        rw [h0, if_neg (show ¬ (0 : Int) = x by omega)] at hc
        by_cases e : o = x
        · subst e
          rw [if_pos hx] at h2
          rw [if_pos rfl] at hc
          omega
        · rw [if_neg (show ¬ (⟨o, 1, (frAt fs i).data⟩ : Fr).owner = x from e)] at hc
          omega
      · rw [if_neg hx] at hq ⊢; exact hq
  · obtain ⟨-, e2⟩ := acq_bad (fs := fs) (quota := q) (o := o) rfl he
    rw [e2]
    exact h
theorem CP.put (h : CP fs N q H) {H' : Int} {i : Nat} {f : Fr} (hf : f.owner = 0 ∨ f.owner = (frAt fs i).owner) (hk : OkF (fs.set i f) H') : CP (fs.set i f) N q H' := by
  refine ⟨by rw [List.length_set]; exact h.len, hk, fun j hj => ?_, fun x => Int.le_trans (held_le_of (fun x hx => cnt_free hf hx) x) (h.quo x)⟩
  by_cases e : i = j
  · subst e
    rw [frAt_set_same (by rw [h.len]; exact hj)]
    rcases hf with hf | hf
    · rw [hf]; decide
    · rw [hf]; exact h.own i hj
  · rw [frAt_set_ne e]; exact h.own j hj
theorem CP.ret (h : CP fs N q H) (n o : Int) : CP (retF fs n o) N q (H + 1) := by
  have hk := h.ok.ret n o
  unfold retF at hk ⊢
  split
  · rename_i h0
    rw [if_pos h0] at hk
    exact h.put (.inr rfl) hk
  · exact h.mono (by omega)
theorem CP.rel (h : CP fs N q H) (n o : Int) : CP (relF fs n o) N q H := by
  have hk := h.ok.rel n o
  unfold relF at hk ⊢
  split
  · rename_i h0
    rw [if_pos h0] at hk
    split
    · rename_i h1
      rw [if_pos h1] at hk
      exact h.put (.inl rfl) hk
    · rename_i h1
      rw [if_neg h1] at hk
      exact h.put (.inr rfl) hk
  · exact h
theorem recK_cnt (fs : List Fr) (o : Int) (k : Nat) {x : Int} (hx : 0 < x) : cntO (recK fs o k) x ≤ cntO fs x := by
  induction k with
  | zero => exact Nat.le_refl _
  | succ k ih =>
    unfold recK
    split
    · exact Nat.le_trans (cnt_free (.inl rfl) hx) ih
    · exact ih
theorem CP.rec_ (h : CP fs N q H) (o : Int) : CP (recS fs o) N q H := by
  refine ⟨by unfold recS; rw [recK_length]; exact h.len, h.ok.rec_ o, fun j hj => ?_, fun x => Int.le_trans (held_le_of (fun x hx => recK_cnt fs o _ hx) x) (h.quo x)⟩
  rw [recS_at fs o (by rw [h.len]; exact hj)]
  unfold freed
  split
  · show (0 : Int) ≤ 4; decide
  · exact h.own j hj
/-- Free ones, and all that the four owners hold. -/
theorem CP.sum (h : CP fs N q H) : ((freeI fs).length : Int) + (heldN fs 1 + heldN fs 2 + heldN fs 3 + heldN fs 4) = N := by
  have hs := cnt_sum (fs := fs) fun f hf => by
    obtain ⟨i, hi, rfl⟩ := List.mem_iff_getElem.1 hf
    have h1 := h.own i (by rw [← h.len]; exact hi)
    have h2 := h.ok i hi
    rw [frAt_eq hi] at h1 h2
    exact ⟨h2.2.2.1, h1⟩
  rw [freeI_cnt]
  unfold heldN
  simp only [show (0 : Int) < 1 from by decide, show (0 : Int) < 2 from by decide, show (0 : Int) < 3 from by decide, show (0 : Int) < 4 from by decide, if_true]
  have := h.len
  omega
/-- The handles, as the law keeps them: those of the first k frames are fs', the rest fs. -/
def HsAt (hs : List Int) (N : Nat) (fs : List Fr) : Prop := hs.length = N ∧ ∀ i, i < N → hs[i]? = some (frAt fs i).handles
theorem HsAt.empty (N : Nat) : HsAt (List.replicate N 0) N (emptyFs N) := ⟨List.length_replicate, fun i hi => by rw [List.getElem?_replicate, if_pos hi, emptyFs_at]; rfl⟩
theorem HsAt.put {hs : List Int} (h : HsAt hs N fs) (hl : fs.length = N) {i : Nat} (hi : i < N) {f : Fr} {x : Int} (hx : f.handles = x) : HsAt (hs.set i x) N (fs.set i f) := by
  refine ⟨by rw [List.length_set]; exact h.1, fun j hj => ?_⟩
  by_cases e : i = j
  · subst e
    rw [List.getElem?_set_self (by rw [h.1]; exact hj), frAt_set_same (by rw [hl]; exact hj), hx]
  · rw [List.getElem?_set_ne e, frAt_set_ne e]
    exact h.2 j hj
/-- .. while a reclaim is told to them. -/
def HsMid (hs : List Int) (N k : Nat) (fs : List Fr) (o : Int) : Prop := hs.length = N ∧ (∀ i, i < k → hs[i]? = some (frAt (recS fs o) i).handles) ∧ ∀ i, k ≤ i → i < N → hs[i]? = some (frAt fs i).handles
theorem HsMid.start {hs : List Int} (h : HsAt hs N fs) (o : Int) : HsMid hs N 0 fs o := ⟨h.1, fun i hi => by omega, fun i _ hi => h.2 i hi⟩
theorem HsMid.done {hs : List Int} {o : Int} (h : HsMid hs N N fs o) : HsAt hs N (recS fs o) := ⟨h.1, h.2.1⟩
theorem HsMid.zero {hs : List Int} {o : Int} {k : Nat} (h : HsMid hs N k fs o) (hp : CP fs N q H) (hk : k < N) (h0 : (frAt (recS fs o) k).owner = 0) : HsMid (hs.set k 0) N (k + 1) fs o := by
  have hz := ((hp.rec_ o).ok k (by rw [(hp.rec_ o).len]; exact hk)).2.2.2.2.1 h0
  refine ⟨by rw [List.length_set]; exact h.1, fun i hi => ?_, fun i h1 h2 => ?_⟩
  · by_cases e : k = i
    · subst e
      rw [List.getElem?_set_self (by rw [h.1]; exact hk), hz]
    · rw [List.getElem?_set_ne e]; exact h.2.1 i (by omega)
  · rw [List.getElem?_set_ne (by omega)]; exact h.2.2 i (by omega) h2
theorem HsMid.same {hs : List Int} {o : Int} {k : Nat} (h : HsMid hs N k fs o) (hp : CP fs N q H) (hk : k < N) (h0 : (frAt (recS fs o) k).owner ≠ 0) : HsMid hs N (k + 1) fs o := by
  have he : frAt (recS fs o) k = frAt fs k := by
    rw [recS_at fs o (by rw [hp.len]; exact hk)] at h0 ⊢
    unfold freed at h0 ⊢
    split
    · rename_i h1
      rw [if_pos h1] at h0
      exact absurd rfl h0
    · rfl
  refine ⟨h.1, fun i hi => ?_, fun i h1 h2 => h.2.2 i (by omega) h2⟩
  by_cases e : k = i
  · subst e
    rw [he]; exact h.2.2 k (Nat.le_refl _) hk
  · exact h.2.1 i (by omega)
/-- Those that are free, of the first k. -/
def freeC (fs : List Fr) (k : Nat) : Nat := cntO (fs.take k) 0
theorem freeC_succ (fs : List Fr) {k : Nat} (h : k < fs.length) : freeC fs (k + 1) = freeC fs k + (if (frAt fs k).owner = 0 then 1 else 0) := by
  unfold freeC
  rw [frAt_eq h]
  unfold cntO
  rw [List.take_add_one, List.getElem?_eq_getElem h, Option.toList_some, List.countP_append]
  simp
theorem freeC_all (fs : List Fr) : freeC fs fs.length = (freeI fs).length := by
  unfold freeC
  rw [List.take_length, freeI_cnt]
theorem freeC_le (fs : List Fr) (k : Nat) : freeC fs k ≤ fs.length := Nat.le_trans (cntO_le _ _) (by rw [List.length_take]; omega)
/-- What the first owners hold. -/
def heldS (fs : List Fr) : Nat → Int
  | 0 => 0
  | k + 1 => heldS fs k + heldN fs ((k : Int) + 1)
theorem heldS_le (fs : List Fr) (k : Nat) : 0 ≤ heldS fs k ∧ heldS fs k ≤ k * fs.length := by
  induction k with
  | zero => simp [heldS]
  | succ k ih =>
    have := heldN_le fs ((k : Int) + 1)
    unfold heldS
    refine ⟨by omega, ?_⟩
    rw [show ((k + 1 : Nat) : Int) * fs.length = (k : Int) * fs.length + fs.length by rw [Int.natCast_add, Int.add_mul]; simp]
    omega
theorem heldS_four (fs : List Fr) : heldS fs 4 = heldN fs 1 + heldN fs 2 + heldN fs 3 + heldN fs 4 := by
  simp only [heldS]
  show 0 + heldN fs (((0 : Nat) : Int) + 1) + heldN fs (((1 : Nat) : Int) + 1) + heldN fs (((2 : Nat) : Int) + 1) + heldN fs (((3 : Nat) : Int) + 1) = _
  rw [show ((0 : Nat) : Int) + 1 = 1 from rfl, show ((1 : Nat) : Int) + 1 = 2 from rfl, show ((2 : Nat) : Int) + 1 = 3 from rfl, show ((3 : Nat) : Int) + 1 = 4 from rfl, Int.zero_add]
theorem held_wrap {fs : List Fr} {N : Nat} (hl : fs.length = N) (hN : N ≤ 10) {j : Nat} (hj : j < 4) : IntKind.i64.wrap (heldS fs j + heldN fs ((j : Int) + 1)) = heldS fs (j + 1) := by
  have h1 := heldS_le fs j
  have h2 := heldN_le fs ((j : Int) + 1)
  rw [hl] at h1 h2
  have h3 : (j : Int) * N ≤ 3 * 10 := Int.mul_le_mul (by omega) (by omega) (by omega) (by omega)
  show _ = heldS fs j + heldN fs ((j : Int) + 1)
  rw [IntKind.wrap_i64]; omega
end
end Go.Proofs.Ytmbnmhcfafgnaaa
