/-
  A map from integers to a struct of one text, by what it tells of each number. Nothing here names a program.
-/
import Derived.Test.YtheihohojmcbiaaBase
import Derived.Maps.OwnSet
namespace Go.Mine
open Go.RowKit Go.Maps

/-- How a struct of one text reads. -/
def toldR : Value → Option (DataW Unit × List MemPlace)
  | .agg cs => match cs.toList with
    | [.string s] => some (.lit (.string s.data.toList), [])
    | _ => none
  | _ => none
theorem toldR_mk (s : ByteArray) : toldR (.agg #[.string s]) = some (.lit (.string s.data.toList), []) := rfl
theorem toldR_inv {v : Value} {z : DataW Unit × List MemPlace} (h : toldR v = some z) : ∃ s, v = .agg #[.string s] ∧ z = (.lit (.string s.data.toList), []) := by
  unfold toldR at h
  split at h
  · rename_i cs
    split at h
    · rename_i s hs
      refine ⟨s, ?_, by injection h with h; exact h.symm⟩
      congr 1
      exact Array.ext' hs
    · cases h
  · cases h
theorem wf64 {x : Int} (h : -9223372036854775808 ≤ x ∧ x ≤ 9223372036854775807) : (Lit.int .i64 x).wf = true := by
  simp only [Lit.wf, Bool.and_eq_true, decide_eq_true_eq]; exact h

/-- Block b is a map of at most n entries that tells f. -/
def MapIs (P : Program) (K : TypeId) (w : World) (b n : Nat) (f : Int → Option ByteArray) : Prop :=
  ∃ D, w.ownsMap P K toldR b n D ∧ ∀ x, -9223372036854775808 ≤ x ∧ x ≤ 9223372036854775807 →
    (f x = none → has D (.int .i64 x) = false) ∧ ∀ s, f x = some s → has D (.int .i64 x) = true ∧ ∀ z, D.atKey (.int .i64 x) z = .lit (.string s.data.toList)

section
variable {P : Program} {K e t : TypeId} {w w' : World} {b n : Nat} {f : Int → Option ByteArray} {S : List Nat}

theorem MapIs.made (w : World) (P : Program) (K : TypeId) : MapIs P K (w.alloc (.map #[] 0)) w.heap.size 0 (fun _ => none) :=
  ⟨_, World.ownsMap_made w P K toldR, fun _ _ => ⟨fun _ => rfl, fun _ h => by cases h⟩⟩
theorem MapIs.lt (h : MapIs P K w b n f) : b < w.heap.size := by obtain ⟨D, h, _⟩ := h; exact h.lt
theorem MapIs.grown {row : Option Nat} (h : MapIs P K w b n f) (hg : w.grownBy w' row) (hne : some b ≠ row) : MapIs P K w' b n f := by
  obtain ⟨D, h1, h2⟩ := h
  exact ⟨D, h1.kept hg hne, h2⟩
theorem MapIs.only (h : MapIs P K w b n f) (ht : OnlyIn S w w') (hn : b ∉ S) : MapIs P K w' b n f := by
  obtain ⟨D, ⟨es, clock, hb, r⟩, h2⟩ := h
  exact ⟨D, ⟨es, clock, (ht.block b (Array.getElem?_eq_some_iff.1 hb).1 hn).trans hb, r⟩, h2⟩
theorem MapIs.alloc (h : MapIs P K w b n f) (o : Obj) : MapIs P K (w.alloc o) b n f := h.grown (World.grownBy_alloc w o none) (by simp)
theorem MapIs.drew (h : MapIs P K w b n f) : MapIs P K w.drew b n f := h
theorem MapIs.drewN (h : MapIs P K w b n f) (k : Nat) : MapIs P K (w.drewN k) b n f := h
theorem MapIs.setCell (h : MapIs P K w b n f) {a : Addr} (ha : b ≠ a.block) (u : Value) : MapIs P K (w.setCell a u) b n f := by
  obtain ⟨D, h1, h2⟩ := h
  exact ⟨D, h1.setCell ha u, h2⟩
/-- It is no block of cells. -/
theorem MapIs.ne_cells (h : MapIs P K w b n f) {c : Nat} {cur : Array Value} {ty : TypeId} {q : Nat × Nat} (hc : w.heap[c]? = some (.cells cur ty q)) : b ≠ c := by
  rintro rfl
  obtain ⟨D, ⟨es, clock, hb, _⟩, _⟩ := h
  rw [hb] at hc
  cases hc
theorem MapIs.ne_blk (h : MapIs P K w b n f) {c : Nat} {ty : TypeId} {cs : List Value} (hc : Blk w c ty cs) : b ≠ c := h.ne_cells hc

theorem MapIs.look (h : MapIs P K w b n f) (hK : P.underlying K = some (.int .i64)) (ht : P.underlying t = some (.map K e)) (hz : (zeroValue e).run P w = .ok (.agg #[.string ⟨#[]⟩]) w)
    (x : Int) (hx : -9223372036854775808 ≤ x ∧ x ≤ 9223372036854775807) : (Instr.lookup t (.map (some b)) (.int .i64 x) true).run P w = .ok (.tuple #[.agg #[.string ((f x).getD ⟨#[]⟩)], .bool (f x).isSome]) w := by
  obtain ⟨D, h1, h2⟩ := h
  obtain ⟨v, ps, hrun, hR⟩ := h1.look_ok (int_keyed hK) ht hz (toldR_mk _) (keyOf_int_mk hK (wf64 hx))
  obtain ⟨s, rfl, hs⟩ := toldR_inv hR
  simp only [Prod.mk.injEq] at hs
  obtain ⟨h3, h4⟩ := h2 x hx
  cases hf : f x with
  | none =>
    rw [hrun, h3 hf]
    have := hs.1
    rw [atKey_of_not_has (h3 hf)] at this
    simp only [DataW.lit.injEq, Lit.string.injEq] at this
    have h5 : s = ⟨#[]⟩ := by
      cases s with | mk a =>
      congr 1
      exact Array.ext' this.symm
    rw [h5]
    rfl
  | some u =>
    obtain ⟨h6, h7⟩ := h4 u hf
    rw [hrun, h6]
    have := hs.1
    rw [h7] at this
    simp only [DataW.lit.injEq, Lit.string.injEq] at this
    have h5 : s = u := by
      cases s with | mk a =>
      cases u with | mk c =>
      congr 1
      exact Array.ext' this.symm
    rw [h5]
    rfl

/-- A number that is not yet told. -/
def tell (f : Int → Option ByteArray) (x : Int) (s : ByteArray) : Int → Option ByteArray := fun y => if y = x then some s else f y

/-- The first text of a number stays. -/
def tellOnce (f : Int → Option ByteArray) (x : Int) (s : ByteArray) : Int → Option ByteArray := if (f x).isSome then f else tell f x s
theorem tellOnce_yes {f : Int → Option ByteArray} {x : Int} {s : ByteArray} (h : (f x).isSome = true) : tellOnce f x s = f := if_pos h
theorem tellOnce_no {f : Int → Option ByteArray} {x : Int} {s : ByteArray} (h : (f x).isSome = false) : tellOnce f x s = tell f x s := if_neg (by simp [h])

theorem wpList_mapUpdate_told {ops : Array Oper} {rest : List Oper} {o : Oper} {a : Act} {Q : Exit → Act → World → Prop}
    (hg : o.guard = none) (m x v : Operand) (t : TypeId) (hop : o.op = Op.mapUpdate t m x v)
    (hK : P.underlying K = some (.int .i64)) (ht : P.underlying t = some (.map K e)) (b n : Nat) (f : Int → Option ByteArray) (hmap : MapIs P K w b n f) (hn : n < 1000000)
    (hm : a.eval m = .map (some b)) (y : Int) (hy : -9223372036854775808 ≤ y ∧ y ≤ 9223372036854775807) (s : ByteArray) (hx : a.eval x = .int .i64 y) (hv : a.eval v = .agg #[.string s])
    (hQ : ∀ w', MapIs P K w' b (n + 1) (tell f y s) → w.grownBy w' (some b) → wpList P ops Q rest (a.put o.dst undef) w') :
    wpList P ops Q (o :: rest) a w := by
  obtain ⟨D, h1, h2⟩ := hmap
  refine wpList_mapUpdate_own w hg m x v t hop K e (int_keyed hK) ht toldR b n D hm h1 (by unfold maxLen; omega) _ _ (.int .i64 y) hx hv (keyOf_int_mk hK (wf64 hy)) _ _ (toldR_mk s) fun w' h3 h4 => hQ w' ⟨_, h3, ?_⟩ h4
  intro z hz
  have hD : IsMap D := h1.isMap
  unfold tell
  by_cases hzy : z = y
  · subst hzy
    rw [if_pos rfl]
    refine ⟨fun h => (by cases h), fun u hu => ?_⟩
    injection hu with hu
    subst hu
    exact ⟨has_put_same hD (k := .int .i64 z) trivial _, fun d => atKey_put_same hD (k := .int .i64 z) trivial _ _⟩
  · rw [if_neg hzy]
    obtain ⟨h5, h6⟩ := h2 z hz
    have hne : (Lit.int .i64 z) ≠ .int .i64 y := fun e => hzy (by injection e)
    exact ⟨fun h => by rw [has_put_other hne]; exact h5 h, fun u hu => ⟨by rw [has_put_other hne]; exact (h6 u hu).1, fun d => by rw [atKey_put_other hne]; exact (h6 u hu).2 d⟩⟩
end
end Go.Mine
