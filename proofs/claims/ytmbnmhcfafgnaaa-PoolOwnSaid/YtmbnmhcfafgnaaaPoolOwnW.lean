/-
  Law 23: PoolOwn: the walk.
-/
import Derived.Test.YtmbnmhcfafgnaaaKnown23
import Derived.Test.YtmbnmhcfafgnaaaOwnLaw
import Derived.Test.YtmbnmhcfafgnaaaKit
import Derived.Test.YtmbnmhcfafgnaaaOpenInts
namespace Go.Proofs.Ytmbnmhcfafgnaaa
open Go.RowKit Go.Mine

theorem Try.infoRow23 : (Try.prog.info? 54).map (fun i => (i.zero, i.size, i.bytes)) = some (some (.slice none 0 0), 1, 24) := by kernel_rfl
theorem mk_rows (n : Nat) (hn : n ≤ 1000000) (W : World) : (Instr.makeSlice 75 (.int .i64 (n : Int)) (.int .i64 (n : Int))).run Try.prog W = .ok (.slice (some ⟨W.heap.size, 0, none⟩) n n) (W.alloc (.cells (List.replicate n (.slice none 0 0)).toArray 54)) := by
  obtain ⟨i0, hi0, hz0, hz1, hz2⟩ := info_parts Try.infoRow23
  have hmk := run_make_n (P := Try.prog) 75 54 i0 (.slice none 0 0) Try.underlying75 hi0 hz0 .i64 .i64 n (by rw [hz2]; omega) (by omega) W
  have hmf : madeCells (Value.slice none 0 0).cells (n * i0.size) = (List.replicate n (.slice none 0 0)).toArray := by
    rw [hz1, Nat.mul_one]
    apply Array.ext'
    apply List.ext_getElem?
    intro j
    simp only [madeCells, Value.cells]
    rw [List.getElem?_replicate]
    by_cases hj : j < n
    · simp [hj, Nat.mod_one]
    · simp [hj]
  rw [hmf] at hmk
  exact hmk

def rowV (x : Nat) : Value := .slice (some ⟨x, 0, none⟩) 1000 1000
/-- The rows that the law keeps beside the frames. -/
structure WantAt (w : World) (wb : Nat) (ws : List Nat) (N : Nat) (dat : Nat → List UInt8) (L : List Nat) (lo : Nat) : Prop where
  blk : Blk w wb 54 (ws.map rowV ++ List.replicate (N - ws.length) (.slice none 0 0))
  row : ∀ i x, ws[i]? = some x → Blk w x 5 (byteCells ((dat i).take 1000))
  nd : ws.Nodup
  nl : ∀ x ∈ wb :: ws, x ∉ L
  ge : ∀ x ∈ wb :: ws, lo ≤ x
section
variable {w w' : World} {wb N lo : Nat} {ws : List Nat} {dat : Nat → List UInt8} {L L' S : List Nat}
theorem WantAt.only (h : WantAt w wb ws N dat L lo) (ht : OnlyIn S w w') (hS : ∀ k ∈ S, k ∉ wb :: ws) : WantAt w' wb ws N dat L lo :=
  ⟨h.blk.only ht fun hm => hS _ hm (by simp), fun i x hx => (h.row i x hx).only ht fun hm => hS _ hm (by simp [List.mem_of_getElem? hx]), h.nd, h.nl, h.ge⟩
theorem WantAt.lt (h : WantAt w wb ws N dat L lo) : ∀ x ∈ wb :: ws, x < w.heap.size := by
  intro x hx
  rcases List.mem_cons.1 hx with rfl | hx
  · exact h.blk.lt
  · obtain ⟨i, hi⟩ := List.getElem?_of_mem hx
    exact (h.row i x hi).lt
theorem WantAt.go (h : WantAt w wb ws N dat L lo) (ht : OnlyIn L w w') (hl : ∀ k ∈ L', k ∈ L ∨ w.heap.size ≤ k) : WantAt w' wb ws N dat L' lo := by
  have h1 := h.only ht fun k hk hm => h.nl k hm hk
  exact ⟨h1.blk, h1.row, h.nd, fun x hx hm => by
    rcases hl x hm with hh | hh
    · exact h.nl x hx hh
    · have := h.lt x hx
      omega, h.ge⟩
theorem WantAt.more (h : WantAt w wb ws N dat L lo) (hlen : ws.length < N) (x : Nat) (hx : w.heap.size ≤ x) (hlo : lo ≤ w.heap.size) (hL : ∀ k ∈ L, k < w.heap.size) (ht : OnlyIn [] w w') (hb : Blk w' x 5 (byteCells ((dat ws.length).take 1000))) :
    WantAt (w'.setCell ⟨wb, ws.length, none⟩ (rowV x)) wb (ws ++ [x]) N dat L lo := by
  have hxw : x ∉ wb :: ws := fun hm => by have := h.lt x hm; omega
  have ht2 : OnlyIn [wb] w' (w'.setCell ⟨wb, ws.length, none⟩ (rowV x)) := (OnlyIn.refl _ _).setCell (.inl (by simp)) _
  refine ⟨?_, fun i y hy => ?_, ?_, fun y hy => ?_, fun y hy => ?_⟩
  · have := (h.blk.only ht (by simp)).set ws.length (rowV x)
    rw [List.set_append_right _ _ (by simp)] at this
    simp only [List.length_map, Nat.sub_self] at this
    rw [show N - ws.length = (N - (ws ++ [x]).length) + 1 by simp; omega, List.replicate_succ, List.set_cons_zero] at this
    rw [List.map_append, List.append_assoc]
    exact this
  · by_cases hi : i < ws.length
    · rw [List.getElem?_append_left hi] at hy
      refine ((h.row i y hy).only ht (by simp)).only ht2 fun hm => ?_
      simp only [List.mem_singleton] at hm
      exact (h.row i y hy).ne_ h.blk (by decide) hm
    · rw [List.getElem?_append_right (by omega)] at hy
      have hi2 : i = ws.length := by
        by_cases e : i - ws.length = 0
        · omega
        · rw [List.getElem?_eq_none (by simp; omega)] at hy; cases hy
      subst hi2
      simp only [Nat.sub_self, List.getElem?_cons_zero, Option.some.injEq] at hy
      subst hy
      refine hb.only ht2 fun hm => ?_
      simp only [List.mem_singleton] at hm
      exact hxw (by simp [hm])
  · rw [List.nodup_append]
    exact ⟨h.nd, by simp, fun a ha c hc e => hxw (by simp at hc; subst hc; subst e; simp [ha])⟩
  · rcases List.mem_cons.1 hy with rfl | hy
    · exact h.nl _ (by simp)
    · rcases List.mem_append.1 hy with hy | hy
      · exact h.nl _ (by simp [hy])
      · simp only [List.mem_singleton] at hy
        subst hy
        exact fun hm => by have := hL _ hm; omega
  · rcases List.mem_cons.1 hy with rfl | hy
    · exact h.ge _ (by simp)
    · rcases List.mem_append.1 hy with hy | hy
      · exact h.ge _ (by simp [hy])
      · simp only [List.mem_singleton] at hy
        omega
theorem WantAt.put (h : WantAt w wb ws N dat L lo) {i x : Nat} (hx : ws[i]? = some x) (at_ : Nat) (v : UInt8) : WantAt (w.setCell ⟨x, at_, none⟩ (.int .u8 (v.toNat : Int))) wb ws N (putD dat i at_ v) L lo := by
  have ht : OnlyIn [x] w (w.setCell ⟨x, at_, none⟩ (.int .u8 (v.toNat : Int))) := (OnlyIn.refl _ _).setCell (.inl (by simp)) _
  refine ⟨h.blk.only ht fun hm => ?_, fun j y hy => ?_, h.nd, h.nl, h.ge⟩
  · simp only [List.mem_singleton] at hm
    exact h.blk.ne_ (h.row i x hx) (by decide) hm
  · unfold putD
    by_cases e : j = i
    · subst e
      rw [hx] at hy
      injection hy with hy
      subst hy
      rw [if_pos rfl]
      have := (h.row j x hx).set at_ (.int .u8 (v.toNat : Int))
      rw [← byteCells_set, ← List.take_set] at this
      exact this
    · rw [if_neg e]
      refine (h.row j y hy).only ht fun hm => ?_
      simp only [List.mem_singleton] at hm
      subst hm
      have hi := (List.getElem?_eq_some_iff.1 hx).1
      have hj := (List.getElem?_eq_some_iff.1 hy).1
      exact e ((List.getElem_inj (h₀ := hj) (h₁ := hi) h.nd).1 ((List.getElem?_eq_some_iff.1 hy).2.trans (List.getElem?_eq_some_iff.1 hx).2.symm))
theorem WantAt.cell (h : WantAt w wb ws N dat L lo) {i x : Nat} (hx : ws[i]? = some x) : w.cell? ⟨wb, i, none⟩ = some (rowV x) := by
  refine h.blk.cell ?_
  rw [List.getElem?_append_left (by rw [List.length_map]; exact (List.getElem?_eq_some_iff.1 hx).1), List.getElem?_map, hx]
  rfl
theorem WantAt.next (h : WantAt w wb ws N dat L lo) (hlen : ws.length < N) : w.cell? ⟨wb, ws.length, none⟩ = some (.slice none 0 0) := by
  refine h.blk.cell ?_
  rw [List.getElem?_append_right (by simp), List.getElem?_replicate, if_pos (by simp; omega)]
theorem WantAt.rd (h : WantAt w wb ws N dat L lo) {i x : Nat} (hx : ws[i]? = some x) (hl : 1000 ≤ (dat i).length) : Rd w 1 (rowV x) ((dat i).take 1000).length (byteCells ((dat i).take 1000)) := by
  refine ⟨by rw [byteCells_length, Nat.mul_one], some ⟨x, 0, none⟩, 1000, by rw [List.length_take, Nat.min_eq_left hl]; rfl, by rw [List.length_take]; omega, fun _ => ⟨x, 0, rfl, fun j u hu => ?_⟩⟩
  rw [Nat.zero_add]
  exact (h.row i x hx).cell hu
end
end Go.Proofs.Ytmbnmhcfafgnaaa
