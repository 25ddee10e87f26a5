/-
  Prefix trees: how they lie in memory; which texts are codes. Nothing here names a program.
-/
import Derived.Test.YtheihohojmcbiaaTrie
import Derived.Test.YtheihohojmcbiaaTold
import Derived.Test.YtheihohojmcbiaaSlice
import Derived.Deep.MidRow
namespace Go.Mine
open Go.RowKit

/-- A text's bits. -/
def bls (s : List UInt8) : List Bool := s.map (· == 49)
theorem bls_length (s : List UInt8) : (bls s).length = s.length := by simp [bls]
def binB (s : List UInt8) : Bool := s.all fun c => c == 48 || c == 49
/-- Is a text a code? -/
def codeB (s : List UInt8) : Bool := binB s && decide (1 ≤ s.length) && decide (s.length ≤ 24)
theorem codeB_iff (s : List UInt8) : codeB s = true ↔ (∀ c ∈ s, c = 48 ∨ c = 49) ∧ 1 ≤ s.length ∧ s.length ≤ 24 := by
  simp [codeB, binB, and_assoc]

def ncell (n : TNode) : List Value := [.int .i64 (n.t0 : Int), .int .i64 (n.t1 : Int), .bool n.leaf, .int .i64 n.num]
theorem ncell_length (n : TNode) : (ncell n).length = 4 := rfl
/-- Each child is a node. -/
def WFt (t : List TNode) : Prop := ∀ (i : Nat) n, t[i]? = some n → n.t0 < t.length ∧ n.t1 < t.length
theorem WFt.to {t : List TNode} (h : WFt t) {i : Nat} {n : TNode} (hn : t[i]? = some n) (x : Bool) : n.to x < t.length := by
  cases x
  · exact (h i n hn).1
  · exact (h i n hn).2
theorem WFt.grow {t : List TNode} (h : WFt t) {a : Nat} {n : TNode} (hn : t[a]? = some n) (x : Bool) : WFt (grow t a n x) := by
  intro i m hm
  have hl : (Go.Mine.grow t a n x).length = t.length + 1 := by simp [Go.Mine.grow]
  rw [hl]
  unfold Go.Mine.grow at hm
  by_cases hia : a = i
  · subst hia
    rw [List.getElem?_set_self (by simp; have := (List.getElem?_eq_some_iff.1 hn).1; omega)] at hm
    injection hm with hm
    subst hm
    have := h _ _ hn
    cases x <;> simp [TNode.setTo] <;> omega
  · rw [List.getElem?_set_ne hia] at hm
    rcases Nat.lt_trichotomy i t.length with hi | hi | hi
    · rw [List.getElem?_append_left hi] at hm
      have := h _ _ hm
      omega
    · subst hi
      rw [List.getElem?_append_right (Nat.le_refl _)] at hm
      simp at hm
      subst hm
      simp [TNode.mt]
    · rw [List.getElem?_eq_none (by simp; omega)] at hm; cases hm
theorem WFt.set {t : List TNode} (h : WFt t) {a : Nat} {n : TNode} (hn : t[a]? = some n) (l : Bool) (k : Int) : WFt (t.set a { n with leaf := l, num := k }) := by
  intro i m hm
  rw [List.length_set]
  by_cases hia : a = i
  · subst hia
    rw [List.getElem?_set_self (List.getElem?_eq_some_iff.1 hn).1] at hm
    injection hm with hm
    subst hm
    exact h _ n hn
  · rw [List.getElem?_set_ne hia] at hm
    exact h _ _ hm
theorem WFt.new : WFt [TNode.mt] := by
  intro i n hn
  cases i with
  | zero => simp at hn; subst hn; simp [TNode.mt]
  | succ i => simp at hn

theorem flat_leaf {t : List TNode} {a : Nat} {nd : TNode} (h : t[a]? = some nd) (k : Int) : ((t.flatMap ncell).set (a * 4 + 2) (.bool true)).set (a * 4 + 3) (.int .i64 k) = (t.set a { nd with leaf := true, num := k }).flatMap ncell := by
  have hlt := (List.getElem?_eq_some_iff.1 h).1
  have hl := flat_length ncell_length t
  refine flat_set_of ncell_length (by omega) t a hlt _ _ ?_ ?_
  · intro j hj
    match j, hj with
    | 0, _ => rw [List.getElem?_set_ne (by omega), List.getElem?_set_ne (by omega), flat_get ncell_length t a 0 (by omega), h]; rfl
    | 1, _ => rw [List.getElem?_set_ne (by omega), List.getElem?_set_ne (by omega), flat_get ncell_length t a 1 (by omega), h]; rfl
    | 2, _ => rw [List.getElem?_set_ne (by omega), List.getElem?_set_self (by rw [hl]; omega)]; rfl
    | 3, _ => rw [List.getElem?_set_self (by rw [List.length_set, hl]; omega)]; rfl
  · intro n hn
    rw [List.getElem?_set_ne (by omega), List.getElem?_set_ne (by omega)]
theorem flat_child {t : List TNode} {a : Nat} {nd : TNode} (h : t[a]? = some nd) (x : Bool) (k : Nat) : (t.flatMap ncell).set (a * 4 + x.toNat) (.int .i64 (k : Int)) = (t.set a (nd.setTo x k)).flatMap ncell := by
  have hlt := (List.getElem?_eq_some_iff.1 h).1
  have hl := flat_length ncell_length t
  refine flat_set_of ncell_length (by omega) t a hlt _ _ ?_ ?_
  · intro j hj
    by_cases hjx : j = x.toNat
    · subst hjx
      rw [List.getElem?_set_self (by rw [hl]; omega)]
      cases x <;> rfl
    · rw [List.getElem?_set_ne (by omega), flat_get ncell_length t a j hj, h]
      match j, hj with
      | 0, _ => cases x <;> simp_all [TNode.setTo, ncell]
      | 1, _ => cases x <;> simp_all [TNode.setTo, ncell]
      | 2, _ => cases x <;> rfl
      | 3, _ => cases x <;> rfl
  · intro n hn
    have hx : x.toNat < 2 := by cases x <;> decide
    rw [List.getElem?_set_ne (by omega)]
theorem flat_more (t : List TNode) : (t ++ [TNode.mt]).flatMap ncell = t.flatMap ncell ++ ncell TNode.mt := by simp

/-- The tree in block b: its nodes in the slice v, its codes in the map mb. -/
structure TreeAt (P : Program) (K NODE TREE : TypeId) (w : World) (base b : Nat) (v : Value) (mb n : Nat) (t : List TNode) (f : Int → Option ByteArray) (m : Nat) : Prop where
  blk : Blk w b TREE [v, .map (some mb), .int .i64 (m : Int)]
  sl : Sl w base NODE 4 v t.length (t.flatMap ncell)
  map : MapIs P K w mb n f
  bb : base ≤ b
  bm : base ≤ mb
  wf : WFt t
  pos : 0 < t.length
  ne : NODE ≠ TREE

section
variable {P : Program} {K NODE TREE : TypeId} {w w' : World} {base b mb n m : Nat} {v : Value} {t : List TNode} {f : Int → Option ByteArray} {S : List Nat}
theorem TreeAt.ne_sl (h : TreeAt P K NODE TREE w base b v mb n t f m) : v.ownBlock ≠ some b := h.sl.ne_blk h.blk h.ne
theorem TreeAt.ne_map (h : TreeAt P K NODE TREE w base b v mb n t f m) : mb ≠ b := h.map.ne_blk h.blk
theorem TreeAt.sl_map (h : TreeAt P K NODE TREE w base b v mb n t f m) : v.ownBlock ≠ some mb := by
  intro hk
  obtain ⟨cur, hc⟩ := h.sl.type_ _ hk
  exact h.map.ne_cells hc rfl
theorem TreeAt.only (h : TreeAt P K NODE TREE w base b v mb n t f m) (ht : OnlyIn S w w') (hS : ∀ k ∈ S, k < base) : TreeAt P K NODE TREE w' base b v mb n t f m :=
  ⟨h.blk.only ht (fun hm => by have := hS _ hm; have := h.bb; omega), h.sl.only ht (fun g hg hm => by have := hS _ hm; have := (h.sl.own_lt g hg).1; omega), h.map.only ht (fun hm => by have := hS _ hm; have := h.bm; omega), h.bb, h.bm, h.wf, h.pos, h.ne⟩
theorem TreeAt.drew (h : TreeAt P K NODE TREE w base b v mb n t f m) : TreeAt P K NODE TREE w.drew base b v mb n t f m := ⟨h.blk, h.sl, h.map, h.bb, h.bm, h.wf, h.pos, h.ne⟩
theorem TreeAt.drewN (h : TreeAt P K NODE TREE w base b v mb n t f m) (k : Nat) : TreeAt P K NODE TREE (w.drewN k) base b v mb n t f m := ⟨h.blk, h.sl, h.map, h.bb, h.bm, h.wf, h.pos, h.ne⟩
theorem TreeAt.alloc (h : TreeAt P K NODE TREE w base b v mb n t f m) (o : Obj) : TreeAt P K NODE TREE (w.alloc o) base b v mb n t f m := h.only (S := []) ((OnlyIn.refl _ _).alloc o) (by simp)
theorem TreeAt.lower (h : TreeAt P K NODE TREE w base b v mb n t f m) {base' : Nat} (hb : base' ≤ base) : TreeAt P K NODE TREE w base' b v mb n t f m :=
  ⟨h.blk, h.sl.mono hb, h.map, Nat.le_trans hb h.bb, Nat.le_trans hb h.bm, h.wf, h.pos, h.ne⟩
/-- A part of a node. -/
theorem TreeAt.node (h : TreeAt P K NODE TREE w base b v mb n t f m) {g off cap : Nat} (hv : v = .slice (some ⟨g, off, none⟩) t.length cap) {i : Nat} {x : TNode} (hx : t[i]? = some x) (j : Nat) {u : Value} (hu : (ncell x)[j]? = some u) :
    w.cell? ⟨g, off + (i * 4 + j), none⟩ = some u := by
  refine h.sl.cell_at hv ?_
  have hj : j < 4 := (List.getElem?_eq_some_iff.1 hu).1
  rw [flat_get ncell_length t i j hj, hx]
  exact hu
/-- .. as the walk spells it. -/
theorem TreeAt.node0 (h : TreeAt P K NODE TREE w base b v mb n t f m) {g off cap : Nat} (hv : v = .slice (some ⟨g, off, none⟩) t.length cap) {i : Nat} {x : TNode} (hx : t[i]? = some x) :
    w.cell? ⟨g, off + i * 4, none⟩ = some (.int .i64 (x.t0 : Int)) := by simpa using h.node hv hx 0 rfl
theorem TreeAt.nodej (h : TreeAt P K NODE TREE w base b v mb n t f m) {g off cap : Nat} (hv : v = .slice (some ⟨g, off, none⟩) t.length cap) {i : Nat} {x : TNode} (hx : t[i]? = some x) (j : Nat) {u : Value} (hu : (ncell x)[j]? = some u) :
    w.cell? ⟨g, off + i * 4 + j, none⟩ = some u := by rw [Nat.add_assoc]; exact h.node hv hx j hu
theorem TreeAt.range4 (h : TreeAt P K NODE TREE w base b v mb n t f m) {g off cap : Nat} (hv : v = .slice (some ⟨g, off, none⟩) t.length cap) {i : Nat} {x : TNode} (hx : t[i]? = some x) :
    w.rangeAt g (off + i * 4) (ncell x) := fun j u hu => h.nodej hv hx j hu
theorem TreeAt.range2 (h : TreeAt P K NODE TREE w base b v mb n t f m) {g off cap : Nat} (hv : v = .slice (some ⟨g, off, none⟩) t.length cap) {i : Nat} {x : TNode} (hx : t[i]? = some x) :
    w.rangeAt g (off + i * 4) [.int .i64 (x.t0 : Int), .int .i64 (x.t1 : Int)] := fun j u hu => h.nodej hv hx j (by
      have hj : j < 2 := (List.getElem?_eq_some_iff.1 hu).1
      match j, hj with
      | 0, _ => exact hu
      | 1, _ => exact hu)
end
end Go.Mine
