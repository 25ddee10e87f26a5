/-
  Package pool: its operations, as the laws' walks take them: a pool with a list of its own blocks.
-/
import Derived.Test.YtmbnmhcfafgnaaaPool7
namespace Go.Proofs.Ytmbnmhcfafgnaaa
open Go.RowKit Go.Mine
/-- The frames of a pool are sound. -/
def OkF (fs : List Fr) (H : Int) : Prop := ∀ i, i < fs.length → 0 ≤ (frAt fs i).handles ∧ (frAt fs i).handles ≤ H ∧ 0 ≤ (frAt fs i).owner ∧ (frAt fs i).owner ≤ 2147483647 ∧ ((frAt fs i).owner = 0 ↔ (frAt fs i).handles = 0)
section
variable {fs : List Fr} {H : Int}
theorem OkF.all (h : OkF fs H) : ∀ f ∈ fs, 0 ≤ f.handles ∧ f.handles ≤ H ∧ 0 ≤ f.owner ∧ f.owner ≤ 2147483647 := by
  intro f hf
  obtain ⟨i, hi, rfl⟩ := List.mem_iff_getElem.1 hf
  have := h i hi
  rw [frAt_eq hi] at this
  exact ⟨this.1, this.2.1, this.2.2.1, this.2.2.2.1⟩
theorem OkF.mono (h : OkF fs H) {H' : Int} (hh : H ≤ H') : OkF fs H' := fun i hi => by
  have := h i hi
  exact ⟨this.1, by omega, this.2.2.1, this.2.2.2⟩
theorem OkF.put (h : OkF fs H) {n : Nat} {f : Fr} (hf : 0 ≤ f.handles ∧ f.handles ≤ H ∧ 0 ≤ f.owner ∧ f.owner ≤ 2147483647 ∧ (f.owner = 0 ↔ f.handles = 0)) : OkF (fs.set n f) H := fun i hi => by
  rw [List.length_set] at hi
  by_cases e : n = i
  · subst e
    rw [frAt_set_same hi]
    exact hf
  · rw [frAt_set_ne e]
    exact h i hi
theorem OkF.empty (N : Nat) : OkF (emptyFs N) 0 := fun i _ => by
  rw [emptyFs_at]
  exact ⟨by decide, by decide, by decide, by decide, by decide⟩
theorem OkF.acq (h : OkF fs H) (hH : 1 ≤ H) (q o : Int) : OkF (acqS fs q o) H := by
  unfold acqS
  split
  · rename_i h0
    have ho : 1 ≤ o ∧ o ≤ 2147483647 := by
      unfold acqE at h0
      split at h0
      · assumption
      · cases h0
    exact h.put ⟨by show (0 : Int) ≤ 1; omega, hH, by show 0 ≤ o; omega, ho.2, by show o = 0 ↔ (1 : Int) = 0; omega⟩
  · exact h
theorem OkF.ret (h : OkF fs H) (n o : Int) : OkF (retF fs n o) (H + 1) := by
  unfold retF
  split
  · rename_i h0
    obtain ⟨i, rfl, hi, ho, hne⟩ := whyF_ok h0
    have := h i hi
    simp only [Int.toNat_natCast]
    refine (h.mono (by omega)).put ⟨?_, ?_, this.2.2.1, this.2.2.2.1, ?_⟩
    · show 0 ≤ (frAt fs i).handles + 1; omega
    · show (frAt fs i).handles + 1 ≤ _; omega
    · show (frAt fs i).owner = 0 ↔ (frAt fs i).handles + 1 = 0; omega
  · exact h.mono (by omega)
theorem OkF.rel (h : OkF fs H) (n o : Int) : OkF (relF fs n o) H := by
  unfold relF
  split
  · rename_i h0
    obtain ⟨i, rfl, hi, ho, hne⟩ := whyF_ok h0
    have := h i hi
    simp only [Int.toNat_natCast]
    split
    · exact h.put ⟨by show (0 : Int) ≤ 0; omega, by show (0 : Int) ≤ H; omega, by show (0 : Int) ≤ 0; omega, by show (0 : Int) ≤ 2147483647; omega, Iff.rfl⟩
    · rename_i h1
      refine h.put ⟨?_, ?_, this.2.2.1, this.2.2.2.1, ?_⟩
      · show 0 ≤ (frAt fs i).handles - 1; omega
      · show (frAt fs i).handles - 1 ≤ _; omega
      · show (frAt fs i).owner = 0 ↔ (frAt fs i).handles - 1 = 0; omega
  · exact h
theorem OkF.rec_ (h : OkF fs H) (o : Int) : OkF (recS fs o) H := fun i hi => by
  have hi' : i < fs.length := by unfold recS at hi; rw [recK_length] at hi; exact hi
  rw [recS_at fs o hi']
  have := h i hi'
  unfold freed
  split
  · exact ⟨by show (0 : Int) ≤ 0; omega, by show (0 : Int) ≤ H; omega, by show (0 : Int) ≤ 0; omega, by show (0 : Int) ≤ 2147483647; omega, Iff.rfl⟩
  · exact this
end

def ownL (b : Nat) (B : PB) (iv : Value) : List Nat := b :: B.ab :: B.mb :: (iv.ownBlock.toList ++ (B.fbs ++ B.bos.filterMap id))
/-- A pool; its blocks are among L. -/
structure PlS (w : World) (base b N T : Nat) (quota : Int) (fs : List Fr) (L : List Nat) : Prop where
  ex : ∃ B iv il, PlAt w base b N T quota B iv il fs ∧ ∀ k ∈ ownL b B iv, k ∈ L
  lo : ∀ k ∈ L, base ≤ k
  lt : ∀ k ∈ L, k < w.heap.size
def PlGo (w w' : World) (base b N T : Nat) (quota : Int) (fs : List Fr) (L : List Nat) : Prop :=
  ∃ L', PlS w' base b N T quota fs L' ∧ OnlyIn L w w' ∧ ∀ k ∈ L', k ∈ L ∨ w.heap.size ≤ k

section
variable {w w1 w' : World} {base b N T : Nat} {quota : Int} {B B' : PB} {iv : Value} {il : List Nat} {fs fs1 : List Fr} {L : List Nat} {H : Int}
theorem bo_mem {B : PB} {i x : Nat} (h : B.bo i = some x) : x ∈ B.bos.filterMap id := by
  unfold PB.bo at h
  rw [List.getD_eq_getElem?_getD] at h
  rw [List.mem_filterMap]
  refine ⟨some x, ?_, rfl⟩
  cases e : B.bos[i]? with
  | none => rw [e] at h; cases h
  | some y =>
    rw [e] at h
    simp only [Option.getD_some] at h
    subst h
    exact List.mem_of_getElem? e
theorem mem_bo {B : PB} {x : Nat} (h : x ∈ B.bos.filterMap id) : ∃ i, i < B.bos.length ∧ B.bo i = some x := by
  rw [List.mem_filterMap] at h
  obtain ⟨y, hy, e⟩ := h
  obtain ⟨i, hi, e2⟩ := List.mem_iff_getElem.1 hy
  refine ⟨i, hi, ?_⟩
  unfold PB.bo
  rw [List.getD_eq_getElem?_getD, List.getElem?_eq_getElem hi, e2]
  exact e
theorem mem_fb {B : PB} {x : Nat} (h : x ∈ B.fbs) : ∃ i, i < B.fbs.length ∧ B.fb i = x := by
  obtain ⟨i, hi, e⟩ := List.mem_iff_getElem.1 h
  refine ⟨i, hi, ?_⟩
  unfold PB.fb
  rw [List.getD_eq_getElem?_getD, List.getElem?_eq_getElem hi]
  exact e
theorem PlAt.own (h : PlAt w base b N T quota B iv il fs) : ∀ k ∈ ownL b B iv, base ≤ k ∧ k < w.heap.size := by
  intro k hk
  unfold ownL at hk
  simp only [List.mem_cons, List.mem_append, Option.mem_toList] at hk
  rcases hk with rfl | rfl | rfl | hk | hk | hk
  · exact ⟨h.bb, h.blk.lt⟩
  · exact ⟨h.rest.b1.1, h.rest.arr.lt⟩
  · exact ⟨h.rest.b1.2, h.rest.map.lt⟩
  · exact h.sl.own_lt k hk
  · obtain ⟨i, hi, rfl⟩ := mem_fb hk
    rw [h.rest.lf] at hi
    exact ⟨h.rest.b2 i hi, (h.rest.fr i hi).blk.lt⟩
  · obtain ⟨i, hi, e⟩ := mem_bo hk
    rw [h.rest.lb] at hi
    exact ⟨h.rest.b3 i k hi e, ((h.rest.fr i hi).yes k e).lt⟩
theorem PlAt.pls (h : PlAt w base b N T quota B iv il fs) : PlS w base b N T quota fs (ownL b B iv) := ⟨⟨B, iv, il, h, fun _ hk => hk⟩, fun k hk => (h.own k hk).1, fun k hk => (h.own k hk).2⟩
theorem PlS.only (h : PlS w base b N T quota fs L) {S : List Nat} (ht : OnlyIn S w w') (hS : ∀ k ∈ S, k ∉ L) : PlS w' base b N T quota fs L := by
  obtain ⟨B, iv, il, hP, hL⟩ := h.ex
  have hn : ∀ k ∈ ownL b B iv, k ∉ S := fun k hk hs => hS k hs (hL k hk)
  unfold ownL at hn
  refine ⟨⟨B, iv, il, ⟨hP.blk.only ht (hn b (by simp)), hP.sl.only ht (fun g hg => hn g (by simp [hg])), hP.pm, hP.hp, hP.rest.only ht (fun k hk hin => ?_), hP.bb, Nat.le_trans hP.bw ht.size, hP.q1, hP.n64⟩, hL⟩, h.lo, fun k hk => Nat.lt_of_lt_of_le (h.lt k hk) ht.size⟩
  refine hn k ?_ hk
  rcases hin with rfl | rfl | ⟨i, hi, rfl⟩ | ⟨i, hi, e⟩
  · simp
  · simp
  · have := hP.fb_mem hi
    simp [this]
  · have := bo_mem e
    simp only [List.mem_cons, List.mem_append]
    exact .inr (.inr (.inr (.inr (.inr this))))
theorem PlS.more (h : PlS w base b N T quota fs L) {T' : Nat} (hT : T ≤ T') : PlS w base b N T' quota fs L := by
  obtain ⟨B, iv, il, hP, hL⟩ := h.ex
  exact ⟨⟨B, iv, il, hP.more hT, hL⟩, h.lo, h.lt⟩
theorem PlS.stay (h : PlS w base b N T quota fs L) : PlGo w w base b N T quota fs L := ⟨L, h, OnlyIn.refl _ _, fun _ hk => .inl hk⟩
theorem PlGo.of_at {iv' : Value} {il' : List Nat} (hP : PlAt w base b N T quota B iv il fs1) (hL : ∀ k ∈ ownL b B iv, k ∈ L) {T' : Nat} (h1 : PlAt w' base b N T' quota B' iv' il' fs) (hm : B.more B' N w.heap.size) (ht : OnlyIn L w w') (hg : ∀ g, iv'.ownBlock = some g → iv.ownBlock = some g ∨ w.heap.size ≤ g) : PlGo w w' base b N T' quota fs L := by
  refine ⟨_, h1.pls, ht, fun k hk => ?_⟩
  obtain ⟨e1, e2, e3, e4⟩ := hm
  unfold ownL at hL hk
  simp only [List.mem_cons, List.mem_append, Option.mem_toList] at hk
  rw [e1, e2, e3] at hk
  rcases hk with rfl | rfl | rfl | hk | hk | hk
  · exact .inl (hL _ (by simp))
  · exact .inl (hL _ (by simp))
  · exact .inl (hL _ (by simp))
  · rcases hg k hk with hh | hh
    · exact .inl (hL _ (by simp [hh]))
    · exact .inr hh
  · exact .inl (hL _ (by simp [hk]))
  · obtain ⟨i, hi, e⟩ := mem_bo hk
    rw [h1.rest.lb] at hi
    rcases e4 i k hi e with hh | hh
    · refine .inl (hL _ ?_)
      have := bo_mem hh
      simp only [List.mem_cons, List.mem_append]
      exact .inr (.inr (.inr (.inr (.inr this))))
    · exact .inr hh
theorem PlGo.of_out (hP : PlAt w base b N T quota B iv il fs1) (hL : ∀ k ∈ ownL b B iv, k ∈ L) {T' : Nat} (h : PlOut w w' base b N T' quota B iv fs) : PlGo w w' base b N T' quota fs L := by
  obtain ⟨iv', il', h1, ht, hg⟩ := h
  refine PlGo.of_at hP hL h1 (B.more_refl _ _) (ht.mono fun k _ hk => hL k ?_) hg
  unfold ownL
  simp only [List.mem_cons, List.mem_append] at hk ⊢
  rcases hk with hk | hk | hk | hk
  · exact .inl hk
  · exact .inr (.inr (.inl hk))
  · exact .inr (.inr (.inr (.inl hk)))
  · exact .inr (.inr (.inr (.inr (.inl hk))))
theorem PlGo.more (h : PlGo w w' base b N T quota fs L) {T' : Nat} (hT : T ≤ T') : PlGo w w' base b N T' quota fs L := by
  obtain ⟨L', h1, h2, h3⟩ := h
  exact ⟨L', h1.more hT, h2, h3⟩
theorem PlGo.trans (h : OnlyIn L w w1) {L1 : List Nat} (hl : ∀ k ∈ L1, k ∈ L ∨ w.heap.size ≤ k) (h2 : PlGo w1 w' base b N T quota fs L1) : PlGo w w' base b N T quota fs L := by
  obtain ⟨L2, hP, ht, hl2⟩ := h2
  refine ⟨L2, hP, h.then ht hl, fun k hk => ?_⟩
  rcases hl2 k hk with hh | hh
  · exact hl k hh
  · exact .inr (Nat.le_trans h.size hh)

set_option maxRecDepth 100000 in
theorem PlS.ls (h : PlS w base b N T quota fs L) : fs.length = N ∧ N ≤ 64 ∧ 1 ≤ quota := by
  obtain ⟨B, iv, il, hP, hL⟩ := h.ex
  exact ⟨hP.ls, hP.n64, hP.q1⟩
set_option maxRecDepth 100000 in
theorem go_acquire (h : PlS w base b N T quota fs L) (hT : T < 90000) (o : Int) (ho : -9223372036854775808 ≤ o ∧ o ≤ 9223372036854775807) :
    Calls Try.prog 43 #[.pointer (some ⟨b, 0, none⟩), .int .i64 o] w fun e w' => e = .returned (.tuple #[.int .i64 (acqN fs quota o : Int), .int .i64 (acqE fs quota o)]) ∧ PlGo w w' base b N (T + 64) quota (acqS fs quota o) L := by
  obtain ⟨B, iv, il, hP, hL⟩ := h.ex
  exact (pl_acquire hP (by omega) o ho).mono fun e w' ⟨he, hg⟩ => ⟨he, (PlGo.of_out hP hL hg).more (by omega)⟩
set_option maxRecDepth 100000 in
theorem go_retain (h : PlS w base b N T quota fs L) (hk : OkF fs H) (hH : H ≤ 1000000) (n o : Int) :
    Calls Try.prog 44 #[.pointer (some ⟨b, 0, none⟩), .int .i64 n, .int .i64 o] w fun e w' => e = .returned (.int .i64 (whyF fs n o)) ∧ PlGo w w' base b N (T + 64) quota (retF fs n o) L := by
  obtain ⟨B, iv, il, hP, hL⟩ := h.ex
  exact (pl_retain hP n o (fun f hf => by have := hk.all f hf; omega)).mono fun e w' ⟨he, hg⟩ => ⟨he, (PlGo.of_out hP hL hg).more (by omega)⟩
set_option maxRecDepth 100000 in
theorem go_release (h : PlS w base b N T quota fs L) (hT : T < 90000) (hk : OkF fs H) (hH : H ≤ 1000000) (n o : Int) :
    Calls Try.prog 32 #[.pointer (some ⟨b, 0, none⟩), .int .i64 n, .int .i64 o] w fun e w' => e = .returned (.int .i64 (whyF fs n o)) ∧ PlGo w w' base b N (T + 64) quota (relF fs n o) L := by
  obtain ⟨B, iv, il, hP, hL⟩ := h.ex
  exact (pl_release hP (by omega) n o (fun f hf => by have := hk.all f hf; omega)).mono fun e w' ⟨he, hg⟩ => ⟨he, (PlGo.of_out hP hL hg).more (by omega)⟩
set_option maxRecDepth 100000 in
theorem go_reclaim (h : PlS w base b N T quota fs L) (hT : T < 90000) (hk : OkF fs H) (hH : H ≤ 1000000) (o : Int) :
    Calls Try.prog 45 #[.pointer (some ⟨b, 0, none⟩), .int .i64 o] w fun e w' => e = .returned (.tuple #[.int .i64 (heldN fs o), .int .i64 0]) ∧ PlGo w w' base b N (T + 64) quota (recS fs o) L := by
  obtain ⟨B, iv, il, hP, hL⟩ := h.ex
  exact (pl_reclaim hP (by omega) o (fun f hf => by have := hk.all f hf; omega)).mono fun e w' ⟨he, hg⟩ => ⟨he, PlGo.of_out hP hL hg⟩
set_option maxRecDepth 100000 in
theorem go_owner (h : PlS w base b N T quota fs L) (n : Int) : Calls Try.prog 34 #[.pointer (some ⟨b, 0, none⟩), .int .i64 n] w fun e w' => e = .returned (.int .i64 (ownF fs n)) ∧ w = w' := by
  obtain ⟨B, iv, il, hP, hL⟩ := h.ex
  exact pl_owner hP n
set_option maxRecDepth 100000 in
theorem go_handles (h : PlS w base b N T quota fs L) (n : Int) : Calls Try.prog 33 #[.pointer (some ⟨b, 0, none⟩), .int .i64 n] w fun e w' => e = .returned (.int .i64 (hanF fs n)) ∧ w = w' := by
  obtain ⟨B, iv, il, hP, hL⟩ := h.ex
  exact pl_handles hP n
set_option maxRecDepth 100000 in
theorem go_held (h : PlS w base b N T quota fs L) (o : Int) (ho : -9223372036854775808 ≤ o ∧ o ≤ 9223372036854775807) : Calls Try.prog 36 #[.pointer (some ⟨b, 0, none⟩), .int .i64 o] w fun e w' => e = .returned (.int .i64 (heldN fs o)) ∧ w = w' := by
  obtain ⟨B, iv, il, hP, hL⟩ := h.ex
  exact pl_held hP o ho
set_option maxRecDepth 100000 in
theorem go_free (h : PlS w base b N T quota fs L) : Calls Try.prog 38 #[.pointer (some ⟨b, 0, none⟩)] w fun e w' => e = .returned (.int .i64 ((freeI fs).length : Int)) ∧ w = w' := by
  obtain ⟨B, iv, il, hP, hL⟩ := h.ex
  exact pl_free hP
set_option maxRecDepth 100000 in
theorem go_look (h : PlS w base b N T quota fs L) (n k : Int) :
    Calls Try.prog 40 #[.pointer (some ⟨b, 0, none⟩), .int .i64 n, .int .i64 k] w fun e w' => ∃ v, e = .returned (.tuple #[v, .int .i64 (lookE fs n k)]) ∧ Sl w' w.heap.size 5 1 v (lookD fs n k).length (byteCells (lookD fs n k)) ∧ ∃ L', PlS w' base b N T quota fs L' ∧ OnlyIn L w w' ∧ (∀ k ∈ L', k ∈ L ∨ w.heap.size ≤ k) ∧ ∀ g, v.ownBlock = some g → g ∉ L' := by
  obtain ⟨B, iv, il, hP, hL⟩ := h.ex
  refine (pl_lookat hP n k).mono ?_
  rintro e w' ⟨v, B', he, h1, hm, ht, hs, hb⟩
  refine ⟨v, he, hs, ?_⟩
  have hLf : ∀ k ∈ B.fbs, k ∈ L := fun k hk => hL k (by unfold ownL; simp [hk])
  obtain ⟨L', hP', ht', hl'⟩ := PlGo.of_at hP hL h1 hm (ht.mono fun k _ hk => hLf k hk) (fun g hg => .inl hg)
  refine ⟨ownL b B' iv, h1.pls, ht.mono fun k _ hk => hLf k hk, ?_, fun g hg hin => ?_⟩
  · intro k hk
    obtain ⟨e1, e2, e3, e4⟩ := hm
    unfold ownL at hL hk
    simp only [List.mem_cons, List.mem_append, Option.mem_toList] at hk
    rw [e1, e2, e3] at hk
    rcases hk with rfl | rfl | rfl | hk | hk | hk
    · exact .inl (hL _ (by simp))
    · exact .inl (hL _ (by simp))
    · exact .inl (hL _ (by simp))
    · exact .inl (hL _ (by simp [hk]))
    · exact .inl (hL _ (by simp [hk]))
    · obtain ⟨i, hi, e⟩ := mem_bo hk
      rw [h1.rest.lb] at hi
      rcases e4 i k hi e with hh | hh
      · refine .inl (hL _ ?_)
        have := bo_mem hh
        simp only [List.mem_cons, List.mem_append]
        exact .inr (.inr (.inr (.inr (.inr this))))
      · exact .inr hh
  · have hge := (hs.own_lt g hg).1
    obtain ⟨e1, e2, e3, e4⟩ := hm
    unfold ownL at hin
    simp only [List.mem_cons, List.mem_append, Option.mem_toList] at hin
    rw [e1, e2, e3] at hin
    have hold := hP.own g
    unfold ownL at hold
    rcases hin with hk | hk | hk | hk | hk | hk
    · have := hold (by simp [hk]); omega
    · have := hold (by simp [hk]); omega
    · have := hold (by simp [hk]); omega
    · have := hold (by simp [hk]); omega
    · have := hold (by simp [hk]); omega
    · obtain ⟨i, hi, e⟩ := mem_bo hk
      rw [h1.rest.lb] at hi
      exact hb g i hi hg e
end
end Go.Proofs.Ytmbnmhcfafgnaaa
