/-
  Objects of the call's own, kept in one list: one hypothesis says what lies in each, and one line carries it over each step. Nothing here names a program.
-/
import Derived.Test.YtheihohojmcbiaaMix
namespace Go.Mine
open Go Go.RowKit

abbrev cellsO (t : TypeId) (cs : List Value) : Obj := .cells cs.toArray t (0, 0)

/-- From w0 to w the old blocks outside S are as they were; behind them lie, among others, these objects. -/
structure Keep (S : List Nat) (w0 w : World) (L : List (Nat × Obj)) : Prop where
  only : OnlyIn S w0 w
  at_ : ∀ (n b : Nat) (o : Obj), L[n]? = some (b, o) → w.heap[b]? = some o
  new : ∀ (n b : Nat) (o : Obj), L[n]? = some (b, o) → w0.heap.size ≤ b
  nd : (L.map (·.1)).Nodup

section
variable {S : List Nat} {w0 w w' : World} {L : List (Nat × Obj)}

theorem Keep.start (S : List Nat) (w : World) : Keep S w w [] := ⟨.refl _ _, fun _ _ _ h => by simp at h, fun _ _ _ h => by simp at h, by simp⟩
theorem Keep.lt (h : Keep S w0 w L) {n b : Nat} {o : Obj} (hn : L[n]? = some (b, o)) : b < w.heap.size := (Array.getElem?_eq_some_iff.1 (h.at_ n b o hn)).1
theorem Keep.blk (h : Keep S w0 w L) (n : Nat) {b : Nat} {t : TypeId} {cs : List Value} (hn : L[n]? = some (b, cellsO t cs)) : Blk w b t cs := h.at_ n b _ hn
theorem Keep.cell (h : Keep S w0 w L) (n i : Nat) {b : Nat} {t : TypeId} {cs : List Value} {v : Value} (hn : L[n]? = some (b, cellsO t cs)) (hi : cs[i]? = some v) : w.cell? ⟨b, i, none⟩ = some v := (h.blk n hn).cell hi
theorem Keep.free (h : Keep S w0 w L) (n i : Nat) {b : Nat} {t : TypeId} {cs : List Value} (hn : L[n]? = some (b, cellsO t cs)) : w.frozen? ⟨b, i, none⟩ = false := (h.blk n hn).free i
theorem Keep.ne (h : Keep S w0 w L) (n m : Nat) {b c : Nat} {o o' : Obj} (hn : L[n]? = some (b, o)) (hm : L[m]? = some (c, o')) (hnm : n ≠ m) : b ≠ c := by
  intro e
  have h1 : (L.map (·.1))[n]? = some b := by simp [hn]
  have h2 : (L.map (·.1))[m]? = some c := by simp [hm]
  obtain ⟨l1, g1⟩ := List.getElem?_eq_some_iff.1 h1
  obtain ⟨l2, g2⟩ := List.getElem?_eq_some_iff.1 h2
  rcases Nat.lt_trichotomy n m with hl | hl | hl
  · exact List.pairwise_iff_getElem.1 h.nd n m l1 l2 hl (by rw [g1, g2, e])
  · exact hnm hl
  · exact List.pairwise_iff_getElem.1 h.nd m n l2 l1 hl (by rw [g1, g2, e])

theorem Keep.drew (h : Keep S w0 w L) : Keep S w0 w.drew L := ⟨h.only.drew, h.at_, h.new, h.nd⟩
theorem Keep.drewN (h : Keep S w0 w L) (k : Nat) : Keep S w0 (w.drewN k) L := ⟨h.only.drewN k, h.at_, h.new, h.nd⟩
theorem Keep.alloc (h : Keep S w0 w L) (o : Obj) : Keep S w0 (w.alloc o) ((w.heap.size, o) :: L) := by
  refine ⟨h.only.alloc o, fun n b o' hn => ?_, fun n b o' hn => ?_, ?_⟩
  · cases n with
    | zero => simp only [List.getElem?_cons_zero, Option.some.injEq, Prod.mk.injEq] at hn; obtain ⟨rfl, rfl⟩ := hn; exact World.alloc_heap_new w _
    | succ n => rw [List.getElem?_cons_succ] at hn; exact (Below.heap_alloc w o b (h.lt hn)).trans (h.at_ n b o' hn)
  · cases n with
    | zero => simp only [List.getElem?_cons_zero, Option.some.injEq, Prod.mk.injEq] at hn; obtain ⟨rfl, rfl⟩ := hn; exact h.only.size
    | succ n => rw [List.getElem?_cons_succ] at hn; exact h.new n b o' hn
  · simp only [List.map_cons, List.nodup_cons]
    refine ⟨fun hm => ?_, h.nd⟩
    obtain ⟨⟨b, o'⟩, hx, rfl⟩ := List.mem_map.1 hm
    obtain ⟨n, hn⟩ := List.getElem?_of_mem hx
    have := h.lt hn
    simp at this
theorem Keep.more1 (h : Keep S w0 w L) {o0 : Obj} {W : World} (hW : (w.alloc o0) = W) : Keep S w0 W ([(w.heap.size, o0)] ++ L) ∧ W.heap.size = w.heap.size + 1 := by
  subst hW
  refine ⟨?_, by simp only [World.size_alloc]⟩
  have := (h.alloc o0)
  simpa only [World.size_alloc, List.cons_append, List.nil_append] using this
theorem Keep.more2 (h : Keep S w0 w L) {o0 o1 : Obj} {W : World} (hW : ((w.alloc o0).alloc o1) = W) : Keep S w0 W ([(w.heap.size + 1, o1), (w.heap.size, o0)] ++ L) ∧ W.heap.size = w.heap.size + 1 + 1 := by
  subst hW
  refine ⟨?_, by simp only [World.size_alloc]⟩
  have := ((h.alloc o0).alloc o1)
  simpa only [World.size_alloc, List.cons_append, List.nil_append] using this
theorem Keep.more3 (h : Keep S w0 w L) {o0 o1 o2 : Obj} {W : World} (hW : (((w.alloc o0).alloc o1).alloc o2) = W) : Keep S w0 W ([(w.heap.size + 1 + 1, o2), (w.heap.size + 1, o1), (w.heap.size, o0)] ++ L) ∧ W.heap.size = w.heap.size + 1 + 1 + 1 := by
  subst hW
  refine ⟨?_, by simp only [World.size_alloc]⟩
  have := (((h.alloc o0).alloc o1).alloc o2)
  simpa only [World.size_alloc, List.cons_append, List.nil_append] using this
theorem Keep.more4 (h : Keep S w0 w L) {o0 o1 o2 o3 : Obj} {W : World} (hW : ((((w.alloc o0).alloc o1).alloc o2).alloc o3) = W) : Keep S w0 W ([(w.heap.size + 1 + 1 + 1, o3), (w.heap.size + 1 + 1, o2), (w.heap.size + 1, o1), (w.heap.size, o0)] ++ L) ∧ W.heap.size = w.heap.size + 1 + 1 + 1 + 1 := by
  subst hW
  refine ⟨?_, by simp only [World.size_alloc]⟩
  have := ((((h.alloc o0).alloc o1).alloc o2).alloc o3)
  simpa only [World.size_alloc, List.cons_append, List.nil_append] using this
theorem Keep.more5 (h : Keep S w0 w L) {o0 o1 o2 o3 o4 : Obj} {W : World} (hW : (((((w.alloc o0).alloc o1).alloc o2).alloc o3).alloc o4) = W) : Keep S w0 W ([(w.heap.size + 1 + 1 + 1 + 1, o4), (w.heap.size + 1 + 1 + 1, o3), (w.heap.size + 1 + 1, o2), (w.heap.size + 1, o1), (w.heap.size, o0)] ++ L) ∧ W.heap.size = w.heap.size + 1 + 1 + 1 + 1 + 1 := by
  subst hW
  refine ⟨?_, by simp only [World.size_alloc]⟩
  have := (((((h.alloc o0).alloc o1).alloc o2).alloc o3).alloc o4)
  simpa only [World.size_alloc, List.cons_append, List.nil_append] using this
theorem Keep.more6 (h : Keep S w0 w L) {o0 o1 o2 o3 o4 o5 : Obj} {W : World} (hW : ((((((w.alloc o0).alloc o1).alloc o2).alloc o3).alloc o4).alloc o5) = W) : Keep S w0 W ([(w.heap.size + 1 + 1 + 1 + 1 + 1, o5), (w.heap.size + 1 + 1 + 1 + 1, o4), (w.heap.size + 1 + 1 + 1, o3), (w.heap.size + 1 + 1, o2), (w.heap.size + 1, o1), (w.heap.size, o0)] ++ L) ∧ W.heap.size = w.heap.size + 1 + 1 + 1 + 1 + 1 + 1 := by
  subst hW
  refine ⟨?_, by simp only [World.size_alloc]⟩
  have := ((((((h.alloc o0).alloc o1).alloc o2).alloc o3).alloc o4).alloc o5)
  simpa only [World.size_alloc, List.cons_append, List.nil_append] using this
theorem Keep.more7 (h : Keep S w0 w L) {o0 o1 o2 o3 o4 o5 o6 : Obj} {W : World} (hW : (((((((w.alloc o0).alloc o1).alloc o2).alloc o3).alloc o4).alloc o5).alloc o6) = W) : Keep S w0 W ([(w.heap.size + 1 + 1 + 1 + 1 + 1 + 1, o6), (w.heap.size + 1 + 1 + 1 + 1 + 1, o5), (w.heap.size + 1 + 1 + 1 + 1, o4), (w.heap.size + 1 + 1 + 1, o3), (w.heap.size + 1 + 1, o2), (w.heap.size + 1, o1), (w.heap.size, o0)] ++ L) ∧ W.heap.size = w.heap.size + 1 + 1 + 1 + 1 + 1 + 1 + 1 := by
  subst hW
  refine ⟨?_, by simp only [World.size_alloc]⟩
  have := (((((((h.alloc o0).alloc o1).alloc o2).alloc o3).alloc o4).alloc o5).alloc o6)
  simpa only [World.size_alloc, List.cons_append, List.nil_append] using this
theorem Keep.more8 (h : Keep S w0 w L) {o0 o1 o2 o3 o4 o5 o6 o7 : Obj} {W : World} (hW : ((((((((w.alloc o0).alloc o1).alloc o2).alloc o3).alloc o4).alloc o5).alloc o6).alloc o7) = W) : Keep S w0 W ([(w.heap.size + 1 + 1 + 1 + 1 + 1 + 1 + 1, o7), (w.heap.size + 1 + 1 + 1 + 1 + 1 + 1, o6), (w.heap.size + 1 + 1 + 1 + 1 + 1, o5), (w.heap.size + 1 + 1 + 1 + 1, o4), (w.heap.size + 1 + 1 + 1, o3), (w.heap.size + 1 + 1, o2), (w.heap.size + 1, o1), (w.heap.size, o0)] ++ L) ∧ W.heap.size = w.heap.size + 1 + 1 + 1 + 1 + 1 + 1 + 1 + 1 := by
  subst hW
  refine ⟨?_, by simp only [World.size_alloc]⟩
  have := ((((((((h.alloc o0).alloc o1).alloc o2).alloc o3).alloc o4).alloc o5).alloc o6).alloc o7)
  simpa only [World.size_alloc, List.cons_append, List.nil_append] using this
/-- A callee that turns none of these. -/
theorem Keep.step {S' : List Nat} (h : Keep S w0 w L) (ht : OnlyIn S' w w') (hS : ∀ k, k ∈ S' → k ∈ S ∨ w0.heap.size ≤ k) (hL : ∀ (n b : Nat) (o : Obj), L[n]? = some (b, o) → b ∉ S') : Keep S w0 w' L :=
  ⟨h.only.then ht hS, fun n b o hn => (ht.block b (h.lt hn) (hL n b o hn)).trans (h.at_ n b o hn), h.new, h.nd⟩
theorem Keep.only0 (h : Keep S w0 w L) (ht : OnlyIn [] w w') : Keep S w0 w' L := h.step ht (by simp) (by simp)
theorem Keep.set_at (h : Keep S w0 w L) (n : Nat) {b : Nat} {o o' : Obj} (hn : L[n]? = some (b, o)) {w' : World} (ht : OnlyIn [b] w w') (h' : w'.heap[b]? = some o') : Keep S w0 w' (L.set n (b, o')) := by
  have hlt : n < L.length := (List.getElem?_eq_some_iff.1 hn).1
  refine ⟨h.only.then ht (fun k hk => .inr (by simp at hk; subst hk; exact h.new n _ o hn)), fun m c x hm => ?_, fun m c x hm => ?_, ?_⟩
  · by_cases hmn : n = m
    · subst hmn
      rw [List.getElem?_set_self hlt] at hm
      simp only [Option.some.injEq, Prod.mk.injEq] at hm
      obtain ⟨rfl, rfl⟩ := hm
      exact h'
    · rw [List.getElem?_set_ne hmn] at hm
      exact (ht.block c (h.lt hm) (by simp; exact fun e => h.ne m n hm hn (Ne.symm hmn) e)).trans (h.at_ m c x hm)
  · by_cases hmn : n = m
    · subst hmn
      rw [List.getElem?_set_self hlt] at hm
      simp only [Option.some.injEq, Prod.mk.injEq] at hm
      obtain ⟨rfl, rfl⟩ := hm
      exact h.new n _ o hn
    · rw [List.getElem?_set_ne hmn] at hm
      exact h.new m c x hm
  · have : (L.set n (b, o')).map (·.1) = L.map (·.1) := by
      apply List.ext_getElem?
      intro m
      by_cases hmn : n = m
      · subst hmn; simp [hlt, hn]
        have := List.getElem?_eq_some_iff.1 hn
        obtain ⟨_, g⟩ := this
        simp [g]
      · simp [List.getElem?_set_ne hmn]
    rw [this]
    exact h.nd
theorem Keep.set (h : Keep S w0 w L) (n i : Nat) {b : Nat} {t : TypeId} {cs : List Value} (hn : L[n]? = some (b, cellsO t cs)) (u : Value) : Keep S w0 (w.setCell ⟨b, i, none⟩ u) (L.set n (b, cellsO t (cs.set i u))) :=
  h.set_at n hn ((OnlyIn.refl _ _).setCell (p := ⟨b, i, none⟩) (.inl (by simp)) u) ((h.blk n hn).set i u)
theorem Keep.put (h : Keep S w0 w L) (n : Nat) {b : Nat} {o : Obj} (hn : L[n]? = some (b, o)) (o' : Obj) : Keep S w0 (w.putObj b o') (L.set n (b, o')) :=
  h.set_at n hn ((OnlyIn.refl _ _).putObj (.inl (by simp)) o') (World.putObj_heap_same (h.lt hn))
/-- The same, the numbers at hand. -/
theorem Keep.step1 {S' : List Nat} (h : Keep S w0 w L) (ht : OnlyIn S' w w') (hS : ∀ k, k ∈ S' → k ∈ S ∨ w0.heap.size ≤ k) (hL : ∀ b, b ∈ L.map (·.1) → b ∉ S') : Keep S w0 w' L :=
  h.step ht hS fun _ b o hn => hL b (List.mem_map.2 ⟨(b, o), List.mem_of_getElem? hn, rfl⟩)
/-- A part of the list. -/
theorem Keep.sub (h : Keep S w0 w L) {L' : List (Nat × Obj)} (hs : L'.Sublist L) : Keep S w0 w L' := by
  have hm : ∀ n x, L'[n]? = some x → ∃ m : Nat, L[m]? = some x := fun n x hx => List.getElem?_of_mem (hs.subset (List.mem_of_getElem? hx))
  refine ⟨h.only, fun n b o hn => ?_, fun n b o hn => ?_, h.nd.sublist (hs.map _)⟩
  · obtain ⟨m, hm⟩ := hm n _ hn; exact h.at_ m b o hm
  · obtain ⟨m, hm⟩ := hm n _ hn; exact h.new m b o hm
theorem Keep.notin (h : Keep S w0 w L) (hlt : ∀ k ∈ S, k < w0.heap.size) : ∀ (n b : Nat) (o : Obj), L[n]? = some (b, o) → b ∉ S := fun n b o hn hb => by
  have h1 := h.new n b o hn
  have h2 := hlt b hb
  omega
/-- The row that an own slice lies in grows; these do not turn. -/
theorem Keep.grown (h : Keep S w0 w L) {row : Option Nat} (hg : w.grownBy w' row) (hr : ∀ k, row = some k → k ∈ S ∨ w0.heap.size ≤ k) (hL : ∀ (n b : Nat) (o : Obj), L[n]? = some (b, o) → row ≠ some b) : Keep S w0 w' L :=
  ⟨h.only.grown hg hr, fun n b o hn => (hg.block b (h.lt hn) (fun e => hL n b o hn e.symm)).trans (h.at_ n b o hn), h.new, h.nd⟩
end
end Go.Mine
