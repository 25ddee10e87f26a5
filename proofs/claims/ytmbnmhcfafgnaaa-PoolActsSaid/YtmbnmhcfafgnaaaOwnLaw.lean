/-
  Law 23: what PoolOwn keeps of the frames; a frame's memory at hand.
-/
import Derived.Test.YtmbnmhcfafgnaaaCountsLaw
namespace Go.Proofs.Ytmbnmhcfafgnaaa
open Go.RowKit Go.Mine

/-- The first k frames are an owner's, by one handle; the rest are free. -/
def IsO (fs : List Fr) (N : Nat) (o : Int) (k : Nat) (dat : Nat → List UInt8) : Prop := fs.length = N ∧ ∀ i, i < N → frAt fs i = if i < k then ⟨o, 1, dat i⟩ else ⟨0, 0, dat i⟩
section
variable {fs : List Fr} {N k : Nat} {o : Int} {dat : Nat → List UInt8}
theorem IsO.yes (h : IsO fs N o k dat) {i : Nat} (hi : i < N) (hk : i < k) : frAt fs i = ⟨o, 1, dat i⟩ := by rw [h.2 i hi, if_pos hk]
theorem IsO.no (h : IsO fs N o k dat) {i : Nat} (hi : i < N) (hk : k ≤ i) : frAt fs i = ⟨0, 0, dat i⟩ := by rw [h.2 i hi, if_neg (by omega)]
theorem IsO.data (h : IsO fs N o k dat) {i : Nat} (hi : i < N) : (frAt fs i).data = dat i := by rw [h.2 i hi]; split <;> rfl
theorem IsO.empty (N : Nat) (o : Int) : IsO (emptyFs N) N o 0 (fun _ => List.replicate 152064 0) := ⟨List.length_replicate, fun i hi => by rw [emptyFs_at, if_neg (by omega)]; rfl⟩
theorem IsO.ok (h : IsO fs N o k dat) (ho : 1 ≤ o ∧ o ≤ 2147483647) : OkF fs 1 := fun i hi => by
  rw [h.1] at hi
  rw [h.2 i hi]
  split
  · exact ⟨by show (0 : Int) ≤ 1; omega, by show (1 : Int) ≤ 1; omega, by show 0 ≤ o; omega, ho.2, by show o = 0 ↔ (1 : Int) = 0; omega⟩
  · exact ⟨by show (0 : Int) ≤ 0; omega, by show (0 : Int) ≤ 1; omega, by show (0 : Int) ≤ 0; omega, by show (0 : Int) ≤ 2147483647; omega, by show (0 : Int) = 0 ↔ (0 : Int) = 0; omega⟩
theorem IsO.acq (h : IsO fs N o k dat) (ho : 1 ≤ o ∧ o ≤ 2147483647) (hk : k < N) : acqE fs N o = 0 ∧ acqN fs N o = k ∧ IsO (acqS fs N o) N o (k + 1) dat := by
  have hm : k ∈ freeI fs := mem_freeI.2 ⟨by rw [h.1]; exact hk, by rw [h.no hk (Nat.le_refl _)]⟩
  have hc : heldN fs o < N := by
    unfold heldN
    rw [if_pos (by omega)]
    have h1 := cntO_le fs o
    have h2 : cntO fs o ≠ fs.length := fun e => by
      unfold cntO at e
      have := List.countP_eq_length.1 e _ (List.getElem_mem (by rw [h.1]; exact hk : k < fs.length))
      rw [← frAt_eq, h.no hk (Nat.le_refl _)] at this
      simp at this
      omega
    rw [h.1] at h1 h2
    omega
  have hne : freeI fs ≠ [] := fun e => by rw [e] at hm; cases hm
  have he : acqE fs N o = 0 := by
    unfold acqE
    rw [if_pos ho, if_pos hc, if_neg hne]
  obtain ⟨-, -, i, l, hl, e1, e2, hi, h0⟩ := acqE_ok he
  have h3 := freeI_least hl k hm
  rw [h.1] at hi
  have hik : i = k := by
    by_cases e : i < k
    · rw [h.yes hi e] at h0
      have h0' : o = 0 := h0
      omega
    · omega
  subst hik
  refine ⟨he, e1, by rw [e2, List.length_set]; exact h.1, fun j hj => ?_⟩
  rw [e2]
  by_cases e : i = j
  · subst e
    rw [frAt_set_same (by rw [h.1]; exact hj), if_pos (by omega), h.data hj]
  · rw [frAt_set_ne e, h.2 j hj]
    by_cases e2 : j < i
    · rw [if_pos e2, if_pos (by omega)]
    · rw [if_neg e2, if_neg (by omega)]
theorem IsO.held (h : IsO fs N o N dat) (ho : 0 < o) : heldN fs o = N := by
  unfold heldN
  rw [if_pos ho]
  congr 1
  rw [← h.1]
  unfold cntO
  rw [List.countP_eq_length]
  intro f hf
  obtain ⟨i, hi, rfl⟩ := List.mem_iff_getElem.1 hf
  rw [← frAt_eq hi, h.yes (by rw [← h.1]; exact hi) (by rw [← h.1]; exact hi)]
  simp
theorem IsO.rec_ (h : IsO fs N o N dat) (ho : 0 < o) (o' : Int) : IsO (recS fs o) N o' 0 dat := by
  refine ⟨by unfold recS; rw [recK_length]; exact h.1, fun i hi => ?_⟩
  rw [recS_at fs o (by rw [h.1]; exact hi), h.yes hi hi, if_neg (by omega)]
  unfold freed
  rw [if_pos ⟨rfl, ho⟩]
theorem IsO.mine (h : IsO fs N o k dat) (ho : o ≠ 0) {i : Nat} (hi : i < N) (hk : i < k) : whyF fs i o = 0 := by
  unfold whyF
  rw [if_pos ⟨by omega, by rw [h.1]; omega, by rw [Int.toNat_natCast, h.yes hi hk]; exact ho⟩, Int.toNat_natCast, h.yes hi hk, if_pos rfl]
theorem IsO.other (h : IsO fs N o k dat) (ho : o ≠ 0) {o' : Int} (hne : o ≠ o') {i : Nat} (hi : i < N) (hk : i < k) : whyF fs i o' = 19 := by
  unfold whyF
  rw [if_pos ⟨by omega, by rw [h.1]; omega, by rw [Int.toNat_natCast, h.yes hi hk]; exact ho⟩, Int.toNat_natCast, h.yes hi hk, if_neg hne]
theorem IsO.free (h : IsO fs N o k dat) (o' : Int) {i : Nat} (hi : i < N) (hk : k ≤ i) : whyF fs i o' = 18 := by
  unfold whyF
  rw [if_neg]
  rintro ⟨-, -, h3⟩
  rw [Int.toNat_natCast, h.no hi hk] at h3
  exact h3 rfl
def putD (dat : Nat → List UInt8) (i at_ : Nat) (v : UInt8) : Nat → List UInt8 := fun j => if j = i then (dat j).set at_ v else dat j
theorem IsO.put (h : IsO fs N o k dat) {i : Nat} (hi : i < N) (at_ : Nat) (v : UInt8) : IsO (fs.set i ⟨(frAt fs i).owner, (frAt fs i).handles, (frAt fs i).data.set at_ v⟩) N o k (putD dat i at_ v) := by
  refine ⟨by rw [List.length_set]; exact h.1, fun j hj => ?_⟩
  unfold putD
  by_cases e : i = j
  · subst e
    rw [frAt_set_same (by rw [h.1]; exact hj), if_pos rfl, h.2 i hj]
    split <;> rfl
  · simp only [if_neg (fun e2 => e e2.symm : ¬ j = i)]
    rw [frAt_set_ne e, h.2 j hj]
end

section
variable {w w1 w' : World} {base b N T : Nat} {q : Int} {fs : List Fr} {L : List Nat}
/-- A frame's bytes are at x. -/
def MemAt (w : World) (base b N T : Nat) (q : Int) (fs : List Fr) (L : List Nat) (i x : Nat) : Prop := i < N ∧ ∃ B iv il, PlAt w base b N T q B iv il fs ∧ (∀ k ∈ ownL b B iv, k ∈ L) ∧ B.bo i = some x
variable {i x : Nat}
theorem MemAt.bo_own {B : PB} {iv : Value} (h : B.bo i = some x) : x ∈ ownL b B iv := by
  have := bo_mem h
  unfold ownL
  simp only [List.mem_cons, List.mem_append]
  exact .inr (.inr (.inr (.inr (.inr this))))
theorem MemAt.mem (h : MemAt w base b N T q fs L i x) : x ∈ L := by
  obtain ⟨hi, B, iv, il, hP, hL, hx⟩ := h
  exact hL x (MemAt.bo_own hx)
theorem MemAt.blk (h : MemAt w base b N T q fs L i x) : Blk w x 5 (byteCells (frAt fs i).data) ∧ (frAt fs i).data.length = 152064 := by
  obtain ⟨hi, B, iv, il, hP, hL, hx⟩ := h
  exact ⟨(hP.rest.fr i hi).yes x hx, (hP.rest.fr i hi).len⟩
theorem MemAt.rd (h : MemAt w base b N T q fs L i x) (m : Nat) (hm : m ≤ 152064) : Rd w 1 (.slice (some ⟨x, 0, none⟩) m 152064) ((frAt fs i).data.take m).length (byteCells ((frAt fs i).data.take m)) := by
  obtain ⟨h1, h2⟩ := h.blk
  have hl : ((frAt fs i).data.take m).length = m := by rw [List.length_take, h2]; omega
  refine ⟨by rw [byteCells_length, Nat.mul_one], some ⟨x, 0, none⟩, 152064, by rw [hl], by omega, fun _ => ⟨x, 0, rfl, fun j u hu => ?_⟩⟩
  refine h1.cell ?_
  rw [Nat.zero_add]
  unfold byteCells at hu ⊢
  rw [List.map_take, List.getElem?_take] at hu
  split at hu
  · exact hu
  · cases hu
theorem MemAt.write (h : MemAt w base b N T q fs L i x) (hS : PlS w base b N T q fs L) (at_ : Nat) (v : UInt8) : PlS (w.setCell ⟨x, at_, none⟩ (.int .u8 (v.toNat : Int))) base b N T q (fs.set i ⟨(frAt fs i).owner, (frAt fs i).handles, (frAt fs i).data.set at_ v⟩) L := by
  obtain ⟨hi, B, iv, il, hP, hL, hx⟩ := h
  exact ⟨⟨B, iv, il, hP.write hi hx at_ v, hL⟩, hS.lo, fun k hk => by simpa using hS.lt k hk⟩
theorem MemAt.only (h : MemAt w base b N T q fs L i x) {S : List Nat} (ht : OnlyIn S w w') (hS : ∀ k ∈ S, k ∉ L) : MemAt w' base b N T q fs L i x := by
  obtain ⟨hi, B, iv, il, hP, hL, hx⟩ := h
  have hn : ∀ k ∈ ownL b B iv, k ∉ S := fun k hk hs => hS k hs (hL k hk)
  unfold ownL at hn
  refine ⟨hi, B, iv, il, ⟨hP.blk.only ht (hn b (by simp)), hP.sl.only ht (fun g hg => hn g (by simp [hg])), hP.pm, hP.hp, hP.rest.only ht (fun k hk hin => ?_), hP.bb, Nat.le_trans hP.bw ht.size, hP.q1, hP.n64⟩, hL, hx⟩
  refine hn k ?_ hk
  rcases hin with rfl | rfl | ⟨i, hi, rfl⟩ | ⟨i, hi, e⟩
  · simp
  · simp
  · have := hP.fb_mem hi
    simp [this]
  · have := bo_mem e
    simp only [List.mem_cons, List.mem_append]
    exact .inr (.inr (.inr (.inr (.inr this))))
set_option maxRecDepth 100000 in
theorem go_memory (h : PlS w base b N T q fs L) (n o : Int) :
    Calls Try.prog 49 #[.pointer (some ⟨b, 0, none⟩), .int .i64 n, .int .i64 o] w fun e w' => ∃ v, e = .returned (.tuple #[v, .int .i64 (whyF fs n o)]) ∧ (∃ L', PlS w' base b N T q fs L' ∧ OnlyIn L w w' ∧ (∀ k ∈ L', k ∈ L ∨ w.heap.size ≤ k) ∧
      ((whyF fs n o ≠ 0 ∧ v = .slice none 0 0) ∨ (whyF fs n o = 0 ∧ ∃ x, MemAt w' base b N T q fs L' n.toNat x ∧ v = .slice (some ⟨x, 0, none⟩) 152064 152064))) := by
  obtain ⟨B, iv, il, hP, hL⟩ := h.ex
  refine (pl_memory hP n o).mono ?_
  rintro e w' ⟨v, B', he, h1, hm, ht, hv⟩
  have hLf : ∀ k ∈ B.fbs, k ∈ L := fun k hk => hL k (by unfold ownL; simp [hk])
  refine ⟨v, he, ownL b B' iv, h1.pls, ht.mono fun k _ hk => hLf k hk, ?_, ?_⟩
  · intro k hk
    obtain ⟨e1, e2, e3, e4⟩ := hm
    unfold ownL at hL hk
    simp only [List.mem_cons, List.mem_append, Option.mem_toList] at hk
    rw [e1, e2, e3] at hk
    rcases hk with rfl | rfl | rfl | hk | hk | hk
    · exact .inl (hL _ (by simp))
    · exact .inl (hL _ (by simp))
    · exact .inl (hL _ (by simp))
    · exact .inl (hL _ (by simp [hk]))
    · exact .inl (hL _ (by simp [hk]))
    · obtain ⟨i, hi, e⟩ := mem_bo hk
      rw [h1.rest.lb] at hi
      rcases e4 i k hi e with hh | hh
      · refine .inl (hL _ ?_)
        have := bo_mem hh
        simp only [List.mem_cons, List.mem_append]
        exact .inr (.inr (.inr (.inr (.inr this))))
      · exact .inr hh
  · rcases hv with hv | ⟨h0, x, hx, hv⟩
    · exact .inl hv
    · refine .inr ⟨h0, x, ⟨?_, B', iv, il, h1, fun _ hk => hk, hx⟩, hv⟩
      obtain ⟨i, rfl, hi, -⟩ := whyF_ok h0
      rw [h1.ls] at hi
      simpa using hi
set_option maxRecDepth 100000 in
/-- Who does not own a frame gets none, and nothing is made. -/
theorem go_memory_no (h : PlS w base b N T q fs L) (n o : Int) {r : Int} (hr : whyF fs n o = r) (h0 : r ≠ 0) :
    Calls Try.prog 49 #[.pointer (some ⟨b, 0, none⟩), .int .i64 n, .int .i64 o] w fun e w' => e = .returned (.tuple #[.slice none 0 0, .int .i64 r]) ∧ w = w' := by
  obtain ⟨B, iv, il, hP, hL⟩ := h.ex
  have hof := pl_of hP n o
  rw [hr] at hof
  unfold ptrF at hof
  rw [if_neg h0] at hof
  have d : (r != 0) = true := by simpa using h0
  clear h hP hL hr
  go_enter Try.func49, Try.ntmps49
  go_wp2_with (go_at_call 53; refine hof.mono ?_; rintro e w' ⟨rfl, rfl⟩)
  go_ret2
  exact ⟨rfl, rfl⟩
end
end Go.Proofs.Ytmbnmhcfafgnaaa
