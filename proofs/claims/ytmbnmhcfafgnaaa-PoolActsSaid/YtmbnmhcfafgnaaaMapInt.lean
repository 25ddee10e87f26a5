/-
  A map from integers to a struct of one integer, by what it tells of each number. Nothing here names a program.
-/
import Derived.Test.YtmbnmhcfafgnaaaBase
import Derived.Maps.OwnSet
import Derived.Lib.SlKeysI
namespace Go.Mine
open Go.RowKit Go.Maps

/-- How a struct of one integer reads. -/
def oneR : Value → Option (DataW Unit × List MemPlace)
  | .agg cs => match cs.toList with
    | [.int .i64 x] => some (.lit (.int .i64 x), [])
    | _ => none
  | _ => none
theorem oneR_mk (x : Int) : oneR (.agg #[.int .i64 x]) = some (.lit (.int .i64 x), []) := rfl
theorem oneR_inv {v : Value} {z : DataW Unit × List MemPlace} (h : oneR v = some z) : ∃ x : Int, v = .agg #[.int .i64 x] ∧ z = (.lit (.int .i64 x), []) := by
  unfold oneR at h
  split at h
  · rename_i cs
    split at h
    · rename_i x hs
      refine ⟨x, ?_, by injection h with h; exact h.symm⟩
      congr 1
      exact Array.ext' hs
    · cases h
  · cases h
theorem wf64i {x : Int} (h : -9223372036854775808 ≤ x ∧ x ≤ 9223372036854775807) : (Lit.int .i64 x).wf = true := by
  simp only [Lit.wf, Bool.and_eq_true, decide_eq_true_eq]; exact h

/-- Block b is a map of at most n entries that tells f. -/
def MapI (P : Program) (K : TypeId) (w : World) (b n : Nat) (f : Int → Option Int) : Prop :=
  ∃ D, w.ownsMap P K oneR b n D ∧ ∀ x, -9223372036854775808 ≤ x ∧ x ≤ 9223372036854775807 →
    (f x = none → has D (.int .i64 x) = false) ∧ ∀ s, f x = some s → has D (.int .i64 x) = true ∧ ∀ z, D.atKey (.int .i64 x) z = .lit (.int .i64 s)

section
variable {P : Program} {K e t : TypeId} {w w' : World} {b n : Nat} {f : Int → Option Int} {S : List Nat}

theorem MapI.made (w : World) (P : Program) (K : TypeId) : MapI P K (w.alloc (.map #[] 0)) w.heap.size 0 (fun _ => none) :=
  ⟨_, World.ownsMap_made w P K oneR, fun _ _ => ⟨fun _ => rfl, fun _ h => by cases h⟩⟩
theorem MapI.lt (h : MapI P K w b n f) : b < w.heap.size := by obtain ⟨D, h, _⟩ := h; exact h.lt
theorem MapI.mono (h : MapI P K w b n f) {n' : Nat} (hn : n ≤ n') : MapI P K w b n' f := by
  obtain ⟨D, h1, h2⟩ := h
  exact ⟨D, h1.mono hn, h2⟩
theorem MapI.grown {row : Option Nat} (h : MapI P K w b n f) (hg : w.grownBy w' row) (hne : some b ≠ row) : MapI P K w' b n f := by
  obtain ⟨D, h1, h2⟩ := h
  exact ⟨D, h1.kept hg hne, h2⟩
theorem MapI.only (h : MapI P K w b n f) (ht : OnlyIn S w w') (hn : b ∉ S) : MapI P K w' b n f := by
  obtain ⟨D, ⟨es, clock, hb, r⟩, h2⟩ := h
  exact ⟨D, ⟨es, clock, (ht.block b (Array.getElem?_eq_some_iff.1 hb).1 hn).trans hb, r⟩, h2⟩
theorem MapI.alloc (h : MapI P K w b n f) (o : Obj) : MapI P K (w.alloc o) b n f := h.grown (World.grownBy_alloc w o none) (by simp)
theorem MapI.drew (h : MapI P K w b n f) : MapI P K w.drew b n f := h
theorem MapI.drewN (h : MapI P K w b n f) (k : Nat) : MapI P K (w.drewN k) b n f := h
theorem MapI.setCell (h : MapI P K w b n f) {a : Addr} (ha : b ≠ a.block) (u : Value) : MapI P K (w.setCell a u) b n f := by
  obtain ⟨D, h1, h2⟩ := h
  exact ⟨D, h1.setCell ha u, h2⟩
theorem MapI.ext {g : Int → Option Int} (h : MapI P K w b n f) (hfg : ∀ x, -9223372036854775808 ≤ x ∧ x ≤ 9223372036854775807 → g x = f x) : MapI P K w b n g := by
  obtain ⟨D, h1, h2⟩ := h
  exact ⟨D, h1, fun x hx => by rw [hfg x hx]; exact h2 x hx⟩
/-- It is no block of cells. -/
theorem MapI.ne_cells (h : MapI P K w b n f) {c : Nat} {cur : Array Value} {ty : TypeId} {q : Nat × Nat} (hc : w.heap[c]? = some (.cells cur ty q)) : b ≠ c := by
  rintro rfl
  obtain ⟨D, ⟨es, clock, hb, _⟩, _⟩ := h
  rw [hb] at hc
  cases hc
theorem MapI.ne_blk (h : MapI P K w b n f) {c : Nat} {ty : TypeId} {cs : List Value} (hc : Blk w c ty cs) : b ≠ c := h.ne_cells hc

theorem MapI.look (h : MapI P K w b n f) (hK : P.underlying K = some (.int .i64)) (ht : P.underlying t = some (.map K e)) (hz : (zeroValue e).run P w = .ok (.agg #[.int .i64 0]) w)
    (x : Int) (hx : -9223372036854775808 ≤ x ∧ x ≤ 9223372036854775807) : (Instr.lookup t (.map (some b)) (.int .i64 x) true).run P w = .ok (.tuple #[.agg #[.int .i64 ((f x).getD 0)], .bool (f x).isSome]) w := by
  obtain ⟨D, h1, h2⟩ := h
  obtain ⟨v, ps, hrun, hR⟩ := h1.look_ok (int_keyed hK) ht hz (oneR_mk _) (keyOf_int_mk hK (wf64i hx))
  obtain ⟨s, rfl, hs⟩ := oneR_inv hR
  simp only [Prod.mk.injEq] at hs
  obtain ⟨h3, h4⟩ := h2 x hx
  cases hf : f x with
  | none =>
    rw [hrun, h3 hf]
    have := hs.1
    rw [atKey_of_not_has (h3 hf)] at this
    simp only [DataW.lit.injEq, Lit.int.injEq, true_and] at this
    rw [← this]
    rfl
  | some u =>
    obtain ⟨h6, h7⟩ := h4 u hf
    rw [hrun, h6]
    have := hs.1
    rw [h7] at this
    simp only [DataW.lit.injEq, Lit.int.injEq, true_and] at this
    rw [← this]
    rfl
theorem MapI.at (h : MapI P K w b n f) (hK : P.underlying K = some (.int .i64)) (ht : P.underlying t = some (.map K e)) (hz : (zeroValue e).run P w = .ok (.agg #[.int .i64 0]) w)
    (x : Int) (hx : -9223372036854775808 ≤ x ∧ x ≤ 9223372036854775807) : (Instr.lookup t (.map (some b)) (.int .i64 x) false).run P w = .ok (.agg #[.int .i64 ((f x).getD 0)]) w := by
  obtain ⟨D, h1, h2⟩ := h
  obtain ⟨v, ps, hrun, hR⟩ := h1.lookup (int_keyed hK) ht hz (oneR_mk _) (keyOf_int_mk hK (wf64i hx))
  obtain ⟨s, rfl, hs⟩ := oneR_inv hR
  simp only [Prod.mk.injEq] at hs
  obtain ⟨h3, h4⟩ := h2 x hx
  cases hf : f x with
  | none =>
    rw [hrun]
    have := hs.1
    rw [atKey_of_not_has (h3 hf)] at this
    simp only [DataW.lit.injEq, Lit.int.injEq, true_and] at this
    rw [← this]
    rfl
  | some u =>
    obtain ⟨h6, h7⟩ := h4 u hf
    rw [hrun]
    have := hs.1
    rw [h7] at this
    simp only [DataW.lit.injEq, Lit.int.injEq, true_and] at this
    rw [← this]
    rfl

/-- A number is told. -/
def tellI (f : Int → Option Int) (x s : Int) : Int → Option Int := fun y => if y = x then some s else f y
/-- A number is told no more. -/
def untell (f : Int → Option Int) (x : Int) : Int → Option Int := fun y => if y = x then none else f y

theorem wpList_mapUpdate_i {ops : Array Oper} {rest : List Oper} {o : Oper} {a : Act} {Q : Exit → Act → World → Prop}
    (hg : o.guard = none) (m x v : Operand) (t : TypeId) (hop : o.op = Op.mapUpdate t m x v)
    (hK : P.underlying K = some (.int .i64)) (ht : P.underlying t = some (.map K e)) (b n : Nat) (f : Int → Option Int) (hmap : MapI P K w b n f) (hn : n < 1000000)
    (hm : a.eval m = .map (some b)) (y : Int) (hy : -9223372036854775808 ≤ y ∧ y ≤ 9223372036854775807) (s : Int) (hx : a.eval x = .int .i64 y) (hv : a.eval v = .agg #[.int .i64 s])
    (hQ : ∀ w', MapI P K w' b (n + 1) (tellI f y s) → w.grownBy w' (some b) → wpList P ops Q rest (a.put o.dst undef) w') :
    wpList P ops Q (o :: rest) a w := by
  obtain ⟨D, h1, h2⟩ := hmap
  refine wpList_mapUpdate_own w hg m x v t hop K e (int_keyed hK) ht oneR b n D hm h1 (by unfold maxLen; omega) _ _ (.int .i64 y) hx hv (keyOf_int_mk hK (wf64i hy)) _ _ (oneR_mk s) fun w' h3 h4 => hQ w' ⟨_, h3, ?_⟩ h4
  intro z hz
  have hD : IsMap D := h1.isMap
  unfold tellI
  by_cases hzy : z = y
  · subst hzy
    rw [if_pos rfl]
    refine ⟨fun h => (by cases h), fun u hu => ?_⟩
    injection hu with hu
    subst hu
    exact ⟨has_put_same hD (k := .int .i64 z) trivial _, fun d => atKey_put_same hD (k := .int .i64 z) trivial _ _⟩
  · rw [if_neg hzy]
    obtain ⟨h5, h6⟩ := h2 z hz
    have hne : (Lit.int .i64 z) ≠ .int .i64 y := fun e => hzy (by injection e)
    exact ⟨fun h => by rw [has_put_other hne]; exact h5 h, fun u hu => ⟨by rw [has_put_other hne]; exact (h6 u hu).1, fun d => by rw [atKey_put_other hne]; exact (h6 u hu).2 d⟩⟩

theorem MapI.store (hmap : MapI P K w b n f) (hK : P.underlying K = some (.int .i64)) (ht : P.underlying t = some (.map K e)) (hn : n < 1000000) (y : Int) (hy : -9223372036854775808 ≤ y ∧ y ≤ 9223372036854775807) (s : Int) :
    ∃ w', (Instr.mapUpdate t (.map (some b)) (.int .i64 y) (.agg #[.int .i64 s])).run P w = .ok () w' ∧ MapI P K w' b (n + 1) (tellI f y s) ∧ w.grownBy w' (some b) := by
  obtain ⟨D, h1, h2⟩ := hmap
  obtain ⟨w', hrun, h3, h4⟩ := h1.store (int_keyed hK) ht (by unfold maxLen; omega) (keyOf_int_mk hK (wf64i hy)) (oneR_mk s)
  refine ⟨w', hrun, ⟨_, h3, ?_⟩, h4.grown⟩
  intro z hz
  have hD : IsMap D := h1.isMap
  unfold tellI
  by_cases hzy : z = y
  · subst hzy
    rw [if_pos rfl]
    refine ⟨fun h => (by cases h), fun u hu => ?_⟩
    injection hu with hu
    subst hu
    exact ⟨has_put_same hD (k := .int .i64 z) trivial _, fun d => atKey_put_same hD (k := .int .i64 z) trivial _ _⟩
  · rw [if_neg hzy]
    obtain ⟨h5, h6⟩ := h2 z hz
    have hne : (Lit.int .i64 z) ≠ .int .i64 y := fun e => hzy (by injection e)
    exact ⟨fun h => by rw [has_put_other hne]; exact h5 h, fun u hu => ⟨by rw [has_put_other hne]; exact (h6 u hu).1, fun d => by rw [atKey_put_other hne]; exact (h6 u hu).2 d⟩⟩

theorem wpList_delete_i {ops : Array Oper} {rest : List Oper} {o : Oper} {a : Act} {Q : Exit → Act → World → Prop}
    (hg : o.guard = none) (m x : Operand) (t : TypeId) (hop : o.op = Op.call { callee := Callee.builtin Builtin.delete, args := #[m, x], argTypes := #[t, K] })
    (hK : P.underlying K = some (.int .i64)) (ht : P.underlying t = some (.map K e)) (b n : Nat) (f : Int → Option Int) (hmap : MapI P K w b n f)
    (hm : a.eval m = .map (some b)) (y : Int) (hy : -9223372036854775808 ≤ y ∧ y ≤ 9223372036854775807) (hx : a.eval x = .int .i64 y)
    (hQ : ∀ w', MapI P K w' b n (untell f y) → w.grownBy w' (some b) → wpList P ops Q rest (a.put o.dst (.tuple #[])) w') :
    wpList P ops Q (o :: rest) a w := by
  obtain ⟨D, h1, h2⟩ := hmap
  refine wpList_delete_own w hg m x t K hop e (int_keyed hK) ht oneR b n D hm h1 _ (.int .i64 y) hx (keyOf_int_mk hK (wf64i hy)) fun w' h3 h4 => hQ w' ⟨_, h3, ?_⟩ h4.grown
  intro z hz
  unfold untell
  by_cases hzy : z = y
  · subst hzy
    rw [if_pos rfl]
    exact ⟨fun _ => has_del_same, fun u hu => by cases hu⟩
  · rw [if_neg hzy]
    obtain ⟨h5, h6⟩ := h2 z hz
    have hne : (Lit.int .i64 z) ≠ .int .i64 y := fun e => hzy (by injection e)
    exact ⟨fun h => by rw [has_del_other hne]; exact h5 h, fun u hu => ⟨by rw [has_del_other hne]; exact (h6 u hu).1, fun d => by rw [atKey_del_other hne]; exact (h6 u hu).2 d⟩⟩

/-- Its keys: just the numbers of which it tells. -/
theorem MapI.keys (h : MapI P K w b n f) (hK : P.underlying K = some (.int .i64)) (xs : List Int) (hnd : xs.Nodup) (hin : ∀ x ∈ xs, -9223372036854775808 ≤ x ∧ x ≤ 9223372036854775807)
    (hf : ∀ x, -9223372036854775808 ≤ x ∧ x ≤ 9223372036854775807 → ((f x).isSome = true ↔ x ∈ xs)) :
    ∃ D, w.ownsMap P K oneR b n D ∧ xs.Perm (intKeys D) ∧ Maps.size D ≤ n := by
  obtain ⟨D, h1, h2⟩ := h
  refine ⟨D, h1, ?_, h1.size_le⟩
  obtain ⟨es, hD, hpw, _⟩ := h1.entries (int_keyed hK)
  obtain ⟨es', hD', hko⟩ := h1.keysOf
  obtain rfl : es = es' := by rw [hD] at hD'; simpa using hD'
  have hkey : ∀ p ∈ es, ∃ x : Int, p.1 = .int .i64 x ∧ (Lit.int .i64 x).wf = true := fun p hp => by
    obtain ⟨v, hv⟩ := hko p hp
    obtain ⟨x, _, hx, hw⟩ := Maps.keyOf_i64 hK hv
    exact ⟨x, hx, hw⟩
  subst hD
  refine perm_intKeys hpw (fun p hp => by obtain ⟨x, hx, _⟩ := hkey p hp; exact ⟨x, hx⟩) hnd (fun x => ?_)
  by_cases hx : -9223372036854775808 ≤ x ∧ x ≤ 9223372036854775807
  · obtain ⟨h3, h4⟩ := h2 x hx
    rw [← hf x hx]
    cases hfx : f x with
    | none => rw [h3 hfx]; simp
    | some s => rw [(h4 s hfx).1]; simp
  · refine ⟨fun hm => absurd (hin x hm) hx, fun hm => ?_⟩
    rw [has_eq, List.any_eq_true] at hm
    obtain ⟨p, hp, hs⟩ := hm
    obtain ⟨a, ha, hw⟩ := hkey p hp
    rw [ha] at hs
    have : a = x := by simpa [Lit.sameKey] using hs
    subst this
    simp only [Lit.wf, Bool.and_eq_true, decide_eq_true_eq] at hw
    exact absurd hw hx
end
end Go.Mine
