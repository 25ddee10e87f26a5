/-
  A slice of the call's own, that may begin anywhere in its block, and is appended to again and again. Nothing here names a program.
-/
import Derived.Test.YtheihohojmcbiaaBase
import Derived.Maps.AppendAt
import Derived.ArgAppend
import Derived.OwnWalkIn
import Derived.Laws.AppendOwn
import Derived.Deep.AppendLies
namespace Go.Mine
open Go.RowKit

/-- v is nil, or n elements, 'size' cells each, xs, in a block from 'base' on. -/
def Sl (w : World) (base : Nat) (e : TypeId) (size : Nat) (v : Value) (n : Nat) (xs : List Value) : Prop :=
  xs.length = n * size ∧ ((v = .slice none 0 0 ∧ n = 0) ∨
    ∃ g off cap cur, v = .slice (some ⟨g, off, none⟩) n cap ∧ base ≤ g ∧ w.heap[g]? = some (.cells cur e (0, 0)) ∧ n ≤ cap ∧ cap ≤ maxLen ∧ off + cap * size ≤ cur.size ∧ ∀ j, j < n * size → cur[off + j]? = xs[j]?)

/-- A slice that is read: m elements, news. -/
def Rd (w : World) (size : Nat) (v : Value) (m : Nat) (news : List Value) : Prop :=
  news.length = m * size ∧ ∃ A c, v = .slice A m c ∧ m ≤ c ∧ (0 < m → ∃ g off, A = some ⟨g, off, none⟩ ∧ ∀ j u, news[j]? = some u → w.cell? ⟨g, off + j, none⟩ = some u)

section
variable {P : Program} {w w' : World} {base e size n c : Nat} {v : Value} {xs : List Value} {S : List Nat}

theorem Sl.nil (w : World) (base e size : Nat) : Sl w base e size (.slice none 0 0) 0 [] := ⟨by simp, .inl ⟨rfl, rfl⟩⟩
theorem Sl.of_own (h : w.ownsRow base e size v n xs) : Sl w base e size v n xs := by
  refine ⟨h.1, h.2.imp id fun ⟨g, cap, cur, h1, h2, h3, h4, h5, h6, h7⟩ => ⟨g, 0, cap, cur, h1, h2, h3, h4, h5, by omega, fun j hj => ?_⟩⟩
  rw [← h7, Nat.zero_add, List.getElem?_take, if_pos hj, Array.getElem?_toList]
theorem Sl.mono {base' : Nat} (h : Sl w base e size v n xs) (hb : base' ≤ base) : Sl w base' e size v n xs :=
  ⟨h.1, h.2.imp id fun ⟨g, off, cap, cur, h1, h2, r⟩ => ⟨g, off, cap, cur, h1, Nat.le_trans hb h2, r⟩⟩
theorem Sl.own_lt (h : Sl w base e size v n xs) : ∀ g, v.ownBlock = some g → base ≤ g ∧ g < w.heap.size := by
  intro k hk
  rcases h.2 with ⟨rfl, _⟩ | ⟨g, off, cap, cur, rfl, h2, h3, _⟩
  · simp [Value.ownBlock] at hk
  · have : g = k := by simpa [Value.ownBlock] using hk
    subst this
    exact ⟨h2, (Array.getElem?_eq_some_iff.1 h3).1⟩
theorem Sl.type_ (h : Sl w base e size v n xs) : ∀ g, v.ownBlock = some g → ∃ cur, w.heap[g]? = some (.cells cur e (0, 0)) := by
  intro k hk
  rcases h.2 with ⟨rfl, _⟩ | ⟨g, off, cap, cur, rfl, h2, h3, _⟩
  · simp [Value.ownBlock] at hk
  · have : g = k := by simpa [Value.ownBlock] using hk
    subst this
    exact ⟨cur, h3⟩
/-- It lies in no block of another element type. -/
theorem Sl.ne_blk {b : Nat} {t : TypeId} {cs : List Value} (h : Sl w base e size v n xs) (hb : Blk w b t cs) (hne : e ≠ t) : v.ownBlock ≠ some b := by
  intro hk
  obtain ⟨cur, hc⟩ := h.type_ b hk
  unfold Blk at hb
  rw [hc] at hb
  injection hb with hb
  injection hb with _ ht
  exact hne ht
theorem Sl.block (h : Sl w base e size v n xs) (hs : ∀ g, v.ownBlock = some g → w'.heap[g]? = w.heap[g]?) : Sl w' base e size v n xs := by
  refine ⟨h.1, h.2.imp id fun ⟨g, off, cap, cur, h1, h2, h3, r⟩ => ⟨g, off, cap, cur, h1, h2, ?_, r⟩⟩
  rw [hs g (by rw [h1]; rfl)]
  exact h3
theorem Sl.only (h : Sl w base e size v n xs) (ht : OnlyIn S w w') (hS : ∀ g, v.ownBlock = some g → g ∉ S) : Sl w' base e size v n xs :=
  h.block fun g hg => ht.block g (h.own_lt g hg).2 (hS g hg)
theorem Sl.drew (h : Sl w base e size v n xs) : Sl w.drew base e size v n xs := h
theorem Sl.drewN (h : Sl w base e size v n xs) (k : Nat) : Sl (w.drewN k) base e size v n xs := h
theorem Sl.alloc (h : Sl w base e size v n xs) (o : Obj) : Sl (w.alloc o) base e size v n xs := h.block fun g hg => Below.heap_alloc w o g (h.own_lt g hg).2
theorem Sl.setCell (h : Sl w base e size v n xs) {p : Addr} (hp : v.ownBlock ≠ some p.block) (u : Value) : Sl (w.setCell p u) base e size v n xs :=
  h.block fun g hg => Below.heap_setCell w p u g (by rintro rfl; exact hp hg)
theorem Sl.grown {row : Option Nat} (h : Sl w base e size v n xs) (hg : w.grownBy w' row) (hr : ∀ g, v.ownBlock = some g → some g ≠ row) : Sl w' base e size v n xs :=
  h.block fun g hk => hg.block g (h.own_lt g hk).2 (hr g hk)

theorem Rd.of_sl (h : Sl w base e size v n xs) : Rd w size v n xs := by
  refine ⟨h.1, ?_⟩
  rcases h.2 with ⟨rfl, rfl⟩ | ⟨g, off, cap, cur, rfl, h2, h3, h4, h5, h6, h7⟩
  · exact ⟨none, 0, rfl, Nat.le_refl _, fun h => absurd h (by omega)⟩
  · refine ⟨some ⟨g, off, none⟩, cap, rfl, h4, fun _ => ⟨g, off, rfl, fun j u hu => ?_⟩⟩
    have hj : j < n * size := by rw [← h.1]; exact (List.getElem?_eq_some_iff.1 hu).1
    have := h7 j hj
    simp [World.cell?, h3, this, hu]
theorem Rd.nil (w : World) (size : Nat) : Rd w size (.slice none 0 0) 0 [] := Rd.of_sl (Sl.nil w 0 0 size)
theorem Rd.cells (h : Rd w size v n xs) (hc : ∀ (p : Addr) u, w.cell? p = some u → w'.cell? p = some u) : Rd w' size v n xs := by
  obtain ⟨h1, A, c, rfl, h2, h3⟩ := h
  refine ⟨h1, A, c, rfl, h2, fun hn => ?_⟩
  obtain ⟨g, off, rfl, h4⟩ := h3 hn
  exact ⟨g, off, rfl, fun j u hu => hc _ u (h4 j u hu)⟩

theorem Rd.drew (h : Rd w size v n xs) : Rd w.drew size v n xs := h.cells fun _ _ h => h
theorem Rd.drewN (h : Rd w size v n xs) (k : Nat) : Rd (w.drewN k) size v n xs := h.cells fun _ _ h => h
/-- What buildSlice lays. -/
theorem Rd.lit (w : World) (cs : List Value) (t : TypeId) (m : Nat) (hl : cs.length = m * size) : Rd (w.alloc (.cells cs.toArray t)) size (.slice (some ⟨w.heap.size, 0, none⟩) m m) m cs :=
  ⟨hl, _, m, rfl, Nat.le_refl _, fun _ => ⟨w.heap.size, 0, rfl, fun j u hu => by
    have := World.cell?_alloc_new w cs.toArray t (0 + j)
    rw [this]
    simpa using hu⟩⟩

/-- The cell of an element's part. -/
theorem Sl.cell_at (h : Sl w base e size v n xs) {g off cap : Nat} (hv : v = .slice (some ⟨g, off, none⟩) n cap) {j : Nat} {u : Value} (hu : xs[j]? = some u) : w.cell? ⟨g, off + j, none⟩ = some u := by
  subst hv
  rcases h.2 with ⟨h1, _⟩ | ⟨g', off', cap', cur, h1, h2, h3, h4, h5, h6, h7⟩
  · cases h1
  · simp only [Value.slice.injEq, Option.some.injEq, Addr.mk.injEq, and_true, true_and] at h1
    obtain ⟨⟨rfl, rfl⟩, rfl⟩ := h1
    have hj : j < n * size := by rw [← h.1]; exact (List.getElem?_eq_some_iff.1 hu).1
    have := h7 j hj
    simp [World.cell?, h3, this, hu]
theorem Sl.free_at (h : Sl w base e size v n xs) {g off cap : Nat} (hv : v = .slice (some ⟨g, off, none⟩) n cap) (j : Nat) : w.frozen? ⟨g, j, none⟩ = false := by
  subst hv
  rcases h.2 with ⟨h1, _⟩ | ⟨g', off', cap', cur, h1, h2, h3, h4⟩
  · cases h1
  · simp only [Value.slice.injEq, Option.some.injEq, Addr.mk.injEq, and_true, true_and] at h1
    obtain ⟨⟨rfl, rfl⟩, rfl⟩ := h1
    simp [World.frozen?, h3]
theorem Sl.form (h : Sl w base e size v n xs) (hn : 0 < n) : ∃ g off cap, v = .slice (some ⟨g, off, none⟩) n cap ∧ base ≤ g ∧ g < w.heap.size ∧ n ≤ cap := by
  rcases h.2 with ⟨_, h1⟩ | ⟨g, off, cap, cur, h1, h2, h3, h4, _⟩
  · omega
  · exact ⟨g, off, cap, h1, h2, (Array.getElem?_eq_some_iff.1 h3).1, h4⟩
theorem Blk.ne_own {b : Nat} {t : TypeId} {cs : List Value} (hb : Blk w b t cs) (h : Sl w base e size v n xs) (hne : e ≠ t) : some b ≠ v.ownBlock := fun h1 => h.ne_blk hb hne h1.symm
theorem Sl.val (h : Sl w base e size v n xs) : ∃ A c, v = .slice A n c ∧ n ≤ c := by
  rcases h.2 with ⟨rfl, rfl⟩ | ⟨g, off, cap, cur, h1, h2, h3, h4, _⟩
  · exact ⟨none, 0, rfl, Nat.le_refl _⟩
  · exact ⟨_, cap, h1, h4⟩
/-- An element is written anew: one cell. -/
theorem Sl.stored (h : Sl w base e size v n xs) {g off cap : Nat} (hv : v = .slice (some ⟨g, off, none⟩) n cap) (j : Nat) (u : Value) : Sl (w.setCell ⟨g, off + j, none⟩ u) base e size v n (xs.set j u) := by
  subst hv
  rcases h.2 with ⟨h1, _⟩ | ⟨g', off', cap', cur, h1, h2, h3, h4, h5, h6, h7⟩
  · cases h1
  · simp only [Value.slice.injEq, Option.some.injEq, Addr.mk.injEq, and_true, true_and] at h1
    obtain ⟨⟨rfl, rfl⟩, rfl⟩ := h1
    refine ⟨by simpa using h.1, .inr ⟨g, off, cap, cur.setIfInBounds (off + j) u, rfl, h2, ?_, h4, h5, by simpa using h6, fun i hi => ?_⟩⟩
    · simp [World.setCell, Array.getElem?_modify, h3]
    · have hlen := h.1
      by_cases hij : i = j
      · subst hij
        have hb : off + i < cur.size := by
          have : n * size ≤ cap * size := Nat.mul_le_mul_right _ h4
          omega
        rw [Array.getElem?_setIfInBounds_self_of_lt hb, List.getElem?_set_self (by omega)]
      · rw [Array.getElem?_setIfInBounds_ne (by omega), List.getElem?_set_ne (by omega)]
        exact h7 i hi

/-- 's[1:]'. -/
theorem Sl.tail {g off cap m : Nat} {x ys : List Value} (h : Sl w base e size (.slice (some ⟨g, off, none⟩) (m + 1) cap) (m + 1) (x ++ ys)) (hx : x.length = size) :
    Sl w base e size (.slice (some ⟨g, off + size, none⟩) m (cap - 1)) m ys := by
  rcases h.2 with ⟨h1, _⟩ | ⟨g', off', cap', cur, h1, h2, h3, h4, h5, h6, h7⟩
  · cases h1
  · simp only [Value.slice.injEq, Option.some.injEq, Addr.mk.injEq, and_true, true_and] at h1
    obtain ⟨⟨rfl, rfl⟩, rfl⟩ := h1
    have hl := h.1
    rw [List.length_append, hx, Nat.add_mul] at hl
    have hc : cap * size = (cap - 1) * size + size := by rw [← Nat.succ_mul]; congr 1; omega
    refine ⟨by omega, .inr ⟨g, off + size, cap - 1, cur, rfl, h2, h3, by omega, by omega, by omega, fun j hj => ?_⟩⟩
    have h8 := h7 (size + j) (by rw [Nat.add_mul]; omega)
    rw [List.getElem?_append_right (by omega), hx] at h8
    rw [show off + size + j = off + (size + j) by omega, h8]
    congr 1
    omega
theorem Sl.empty_at {g off : Nat} (h : Sl w base e size (.slice (some ⟨g, off, none⟩) n c) n xs) : Sl w base e size (.slice (some ⟨g, off, none⟩) 0 0) 0 [] := by
  rcases h.2 with ⟨h1, _⟩ | ⟨g', off', cap', cur, h1, h2, h3, h4, h5, h6, h7⟩
  · cases h1
  · simp only [Value.slice.injEq, Option.some.injEq, Addr.mk.injEq, and_true, true_and] at h1
    obtain ⟨⟨rfl, rfl⟩, rfl⟩ := h1
    exact ⟨by simp, .inr ⟨g, off, 0, cur, rfl, h2, h3, by omega, by omega, by omega, fun j hj => by omega⟩⟩

theorem setCells_blk (g : Nat) (e : TypeId) : ∀ (vs : List Value) (o : Nat) (w : World) (cur : Array Value), w.heap[g]? = some (.cells cur e (0, 0)) → o + vs.length ≤ cur.size →
    ∃ cur', (w.setCells g o vs).heap[g]? = some (.cells cur' e (0, 0)) ∧ cur'.size = cur.size ∧ (∀ j, j < vs.length → cur'[o + j]? = vs[j]?) ∧ (∀ j, j < o ∨ o + vs.length ≤ j → cur'[j]? = cur[j]?)
  | [], o, w, cur, h, _ => ⟨cur, h, rfl, fun j hj => absurd hj (by simp), fun _ _ => rfl⟩
  | v :: vs, o, w, cur, h, hl => by
    have h1 : (w.setCell ⟨g, o, none⟩ v).heap[g]? = some (.cells (cur.setIfInBounds o v) e (0, 0)) := by simp [World.setCell, Array.getElem?_modify, h]
    obtain ⟨cur', e1, e2, e3, e4⟩ := setCells_blk g e vs (o + 1) _ _ h1 (by simp at hl ⊢; omega)
    simp only [List.length_cons] at hl
    refine ⟨cur', e1, by simpa using e2, fun j hj => ?_, fun j hj => ?_⟩
    · cases j with
      | zero =>
        rw [e4 (o + 0) (by omega)]
        simp only [Nat.add_zero, List.getElem?_cons_zero]
        exact Array.getElem?_setIfInBounds_self_of_lt (by omega)
      | succ j =>
        have := e3 j (by simp at hj; omega)
        rw [List.getElem?_cons_succ, ← this]
        congr 1
        omega
    · simp only [List.length_cons] at hj
      rw [e4 j (by omega), Array.getElem?_setIfInBounds_ne (by omega)]

theorem grownBy_setCells (w : World) (g o : Nat) (vs : List Value) : w.grownBy (w.setCells g o vs) (some g) := by
  induction vs generalizing w o with
  | nil => exact ⟨rfl, rfl, rfl, Nat.le_refl _, fun _ _ _ => rfl⟩
  | cons v vs ih =>
    have h := ih (w.setCell ⟨g, o, none⟩ v) (o + 1)
    exact ⟨h.os, h.tape, h.output, (by have h2 := h.size; rw [World.size_setCell] at h2; exact h2), fun k hk hne => (h.block k (by simpa using hk) hne).trans (Below.heap_setCell w _ v k (fun e => hne (by rw [e])))⟩

theorem run_append_sl (w : World) (base : Nat) (t ty e : TypeId) (i : TypeInfo) (z : Value) (size bytes : Nat) (ht : P.underlying t = some (.slice e)) (hi : P.info? e = some i) (hz : i.zero = some z)
    (hsize : i.size = size) (hby : i.bytes = bytes) (hzs : z.cells.size = size) (hsz : 0 < size)
    (v : Value) (n : Nat) (xs : List Value) (h : Sl w base e size v n xs)
    (x : Value) (m : Nat) (news : List Value) (hr : Rd w size x m news) (h1 : ∀ u ∈ news, u.oneCell' = true)
    (h63 : n + m ≤ maxLen) (hbytes : (n + m) * bytes ≤ 140737488355328) (hbase : base ≤ w.heap.size) :
    ∃ v' w', (Builtin.append_ #[t, t] ty #[v, x]).run P w = .ok v' w' ∧ Sl w' base e size v' (n + m) (xs ++ news) ∧ w.grownBy w' v.ownBlock ∧
      (∀ g, v'.ownBlock = some g → v.ownBlock = some g ∨ w.heap.size ≤ g) := by
  obtain ⟨hl, A, c, rfl, hmc, hA⟩ := hr
  rcases Nat.eq_zero_or_pos m with hm | hm
  · subst hm
    have hn : news = [] := List.eq_nil_of_length_eq_zero (by simpa using hl)
    subst hn
    refine ⟨v, w, ?_, by simpa using h, ⟨rfl, rfl, rfl, Nat.le_refl _, fun _ _ _ => rfl⟩, fun g hg => .inl hg⟩
    have hfirst : ∀ (a : Option Addr), (Builtin.firstCells size 0 (.slice a 0 c)).run P w = .ok #[] w := fun a => by cases a <;> simp [Builtin.firstCells, loadCells, loadCellsFrom]
    rcases h.2 with ⟨rfl, rfl⟩ | ⟨g, off, cap, cur, rfl, h2, h3, h4, h5, h6, h7⟩
    · cases A <;> simp [Builtin.append_, run_underlying ht, sizeOf, typeInfo, hi, Builtin.lenOf, Builtin.firstCells, loadCells, loadCellsFrom]
    · cases A <;> simp [Builtin.append_, run_underlying ht, sizeOf, typeInfo, hi, Builtin.lenOf, Builtin.firstCells, loadCells, loadCellsFrom, h4, storeCells]
  · obtain ⟨ag, ao, rfl, hc⟩ := hA hm
    have hnews : ∀ j u, news[j]? = some u → w.cell? ((⟨ag, ao, none⟩ : Addr).add j) = some u := fun j u hu => by rw [Addr.add_lit]; exact hc j u hu
    rcases h.2 with ⟨rfl, rfl⟩ | ⟨g, off, cap, cur, rfl, h2, h3, h4, h5, h6, h7⟩
    · have hx : xs = [] := List.eq_nil_of_length_eq_zero (by simpa using h.1)
      subst hx
      obtain ⟨v', w', hrun, k1, k2, _, k4⟩ := run_append_own_at (P := P) w base t ty e i z size bytes ht hi hz hsize hby hzs hsz (.slice none 0 0) 0 [] (World.ownsRow_nil w base e size) ⟨ag, ao, none⟩ m c news hl hnews h1 h63 hbytes hbase
      exact ⟨v', w', hrun, Sl.of_own k1, k2, fun g hg => k4.elim (fun h => .inl (h ▸ hg)) (fun h => .inr (by rw [h] at hg; injection hg with hg; omega))⟩
    · by_cases hroom : n + m ≤ cap
      · have hns : n * size + m * size ≤ cap * size := by rw [← Nat.add_mul]; exact Nat.mul_le_mul_right _ hroom
        have hsome : ∀ j, j < news.length → (w.cell? ⟨g, off + n * size + j, none⟩).isSome = true := fun j hj => by
          have : off + n * size + j < cur.size := by omega
          simp [World.cell?, h3, this]
        have hfree : ∀ j, j < news.length → w.frozen? ⟨g, off + n * size + j, none⟩ = false := fun j _ => by simp [World.frozen?, h3]
        subst hsize
        have hrun := run_append_room_cells (P := P) w t ty e i ht hi g off n cap ⟨ag, ao, none⟩ m c news hl hnews h1 hroom hsome hfree
        obtain ⟨cur', e1, e2, e3, e4⟩ := setCells_blk g e news (off + n * i.size) w cur h3 (by omega)
        refine ⟨_, _, hrun, ⟨by rw [List.length_append, h.1, hl, Nat.add_mul], .inr ⟨g, off, cap, cur', rfl, h2, e1, hroom, h5, by omega, fun j hj => ?_⟩⟩, grownBy_setCells w g _ news, fun g hg => .inl hg⟩
        rw [Nat.add_mul] at hj
        have hxl := h.1
        by_cases hjn : j < n * i.size
        · rw [e4 (off + j) (by omega), List.getElem?_append_left (by omega)]
          exact h7 j hjn
        · have := e3 (j - n * i.size) (by omega)
          rw [List.getElem?_append_right (by omega), hxl, ← this]
          congr 1
          omega
      · have holds : ∀ j u, xs[j]? = some u → w.cell? ((⟨g, off, none⟩ : Addr).add j) = some u := fun j u hu => by rw [Addr.add_lit]; exact h.cell_at rfl hu
        obtain ⟨v', w', hrun, k1, k2⟩ := run_append_arg_grows (P := P) w t ty e i z size bytes ht hi hz hsize hby hzs hsz ⟨g, off, none⟩ n cap xs h.1 holds ⟨ag, ao, none⟩ m c news hl hnews (by omega) h63 hbytes
        refine ⟨v', w', hrun, (Sl.of_own k1).mono hbase, ⟨k2.os, k2.tape, k2.output, k2.size, fun k hk _ => k2.block k hk (by simp)⟩, fun g hg => .inr (k1.lt g hg).1⟩

/-- append, for the walk. -/
theorem wp_append_sl {o : Oper} {a : Act} {K : Act → World → Prop} {Q : Exit → Act → World → Prop} (s x : Operand) (t : TypeId)
    (ho : o.op = .call { callee := .builtin .append, args := #[s, x], argTypes := #[t, t] })
    (base : Nat) (e : TypeId) (i : TypeInfo) (z : Value) (size bytes : Nat) (ht : P.underlying t = some (.slice e)) (hi : P.info? e = some i) (hz : i.zero = some z)
    (hsize : i.size = size) (hby : i.bytes = bytes) (hzs : z.cells.size = size) (hsz : 0 < size)
    (v : Value) (n : Nat) (xs : List Value) (hs : a.eval s = v) (hown : Sl w base e size v n xs)
    (vx : Value) (m : Nat) (news : List Value) (hx : a.eval x = vx) (hr : Rd w size vx m news) (h1 : ∀ u ∈ news, u.oneCell' = true)
    (h63 : n + m ≤ maxLen) (hbytes : (n + m) * bytes ≤ 140737488355328) (hbase : base ≤ w.heap.size)
    (h : ∀ v' w', Sl w' base e size v' (n + m) (xs ++ news) → w.grownBy w' v.ownBlock → (∀ g, v'.ownBlock = some g → v.ownBlock = some g ∨ w.heap.size ≤ g) → K (a.put o.dst v') w') : o.wp P a w K Q := by
  obtain ⟨v', w', hrun, h2, h3, h4⟩ := run_append_sl (P := P) w base t o.type e i z size bytes ht hi hz hsize hby hzs hsz v n xs hown vx m news hr h1 h63 hbytes hbase
  unfold Oper.wp execOp
  simp only [ho, resolve, invoke, builtin, Sem.run_bind, Sem.run_pure, Result.andThen_ok, List.map_toArray, List.map_cons, List.map_nil, hs, hx, hrun]
  exact h v' w' h2 h3 h4

theorem wpList_append_sl {ops : Array Oper} {rest : List Oper} {o : Oper} {a : Act} {Q : Exit → Act → World → Prop} (hgd : o.guard = none) (s x : Operand) (t : TypeId)
    (ho : o.op = .call { callee := .builtin .append, args := #[s, x], argTypes := #[t, t] })
    (base : Nat) (e : TypeId) (i : TypeInfo) (z : Value) (size bytes : Nat) (ht : P.underlying t = some (.slice e)) (hi : P.info? e = some i) (hz : i.zero = some z)
    (hsize : i.size = size) (hby : i.bytes = bytes) (hzs : z.cells.size = size) (hsz : 0 < size)
    (v : Value) (n : Nat) (xs : List Value) (hs : a.eval s = v) (hown : Sl w base e size v n xs)
    (vx : Value) (m : Nat) (news : List Value) (hx : a.eval x = vx) (hr : Rd w size vx m news) (h1 : ∀ u ∈ news, u.oneCell' = true)
    (h63 : n + m ≤ maxLen) (hbytes : (n + m) * bytes ≤ 140737488355328) (hbase : base ≤ w.heap.size)
    (h : ∀ v' w', Sl w' base e size v' (n + m) (xs ++ news) → w.grownBy w' v.ownBlock → (∀ g, v'.ownBlock = some g → v.ownBlock = some g ∨ w.heap.size ≤ g) → wpList P ops Q rest (a.put o.dst v') w') : wpList P ops Q (o :: rest) a w :=
  wpList_plain hgd fun _ hK => wp_append_sl s x t ho base e i z size bytes ht hi hz hsize hby hzs hsz v n xs hs hown vx m news hx hr h1 h63 hbytes hbase fun v' w' h2 h3 h4 => hK _ _ (h v' w' h2 h3 h4)

theorem step_append_sl {ops : Array Oper} {o : Oper} {a : Act} {K : Act → World → Prop} {Q : Exit → Act → World → Prop} {E : Prop} (hgd : o.guard = none) (s x : Operand) (t : TypeId)
    (ho : o.op = .call { callee := .builtin .append, args := #[s, x], argTypes := #[t, t] })
    (base : Nat) (e : TypeId) (i : TypeInfo) (z : Value) (size bytes : Nat) (ht : P.underlying t = some (.slice e)) (hi : P.info? e = some i) (hz : i.zero = some z)
    (hsize : i.size = size) (hby : i.bytes = bytes) (hzs : z.cells.size = size) (hsz : 0 < size)
    (v : Value) (n : Nat) (xs : List Value) (hs : a.eval s = v) (hown : Sl w base e size v n xs)
    (vx : Value) (m : Nat) (news : List Value) (hx : a.eval x = vx) (hr : Rd w size vx m news) (h1 : ∀ u ∈ news, u.oneCell' = true)
    (h63 : n + m ≤ maxLen) (hbytes : (n + m) * bytes ≤ 140737488355328) (hbase : base ≤ w.heap.size)
    (h : ∀ v' w', Sl w' base e size v' (n + m) (xs ++ news) → w.grownBy w' v.ownBlock → (∀ g, v'.ownBlock = some g → v.ownBlock = some g ∨ w.heap.size ≤ g) → K (a.put o.dst v') w') :
    if Region.wanted o (yielded ops a.tmps) = true then Oper.wp P o a w K Q else E := by
  have hw : Region.wanted o (yielded ops a.tmps) = true := by simp [Region.wanted, hgd]
  rw [if_pos hw]
  exact wp_append_sl s x t ho base e i z size bytes ht hi hz hsize hby hzs hsz v n xs hs hown vx m news hx hr h1 h63 hbytes hbase h

theorem wpListIn_append_sl {F : Fence} {k : Nat} {ops : Array Oper} {rest : List Oper} {o : Oper} {a : Act} {Q : Exit → Act → World → Prop} (hgd : o.guard = none) (s x : Operand) (t : TypeId)
    (ho : o.op = .call { callee := .builtin .append, args := #[s, x], argTypes := #[t, t] })
    (base : Nat) (e : TypeId) (i : TypeInfo) (z : Value) (size bytes : Nat) (ht : P.underlying t = some (.slice e)) (hi : P.info? e = some i) (hz : i.zero = some z)
    (hsize : i.size = size) (hby : i.bytes = bytes) (hzs : z.cells.size = size) (hsz : 0 < size)
    (v : Value) (n : Nat) (xs : List Value) (hs : a.eval s = v) (hown : Sl w base e size v n xs)
    (vx : Value) (m : Nat) (news : List Value) (hx : a.eval x = vx) (hr : Rd w size vx m news) (h1 : ∀ u ∈ news, u.oneCell' = true)
    (h63 : n + m ≤ maxLen) (hbytes : (n + m) * bytes ≤ 140737488355328) (hbase : base ≤ w.heap.size)
    (h : ∀ v' w', Sl w' base e size v' (n + m) (xs ++ news) → w.grownBy w' v.ownBlock → (∀ g, v'.ownBlock = some g → v.ownBlock = some g ∨ w.heap.size ≤ g) → wpListIn F k P ops Q rest (a.put o.dst v') w') : wpListIn F k P ops Q (o :: rest) a w := by
  refine wpListIn_plain hgd fun K hK' => ?_
  obtain ⟨v', w', hrun, r1, r2, r3⟩ := run_append_sl (P := P) w base t o.type e i z size bytes ht hi hz hsize hby hzs hsz v n xs hown vx m news hr h1 h63 hbytes hbase
  unfold Oper.wpIn
  refine ⟨?_, ?_⟩
  · simp [Oper.about, ho, resolve, Target.leads, Sem.run_pure]
  · rw [Oper.semAt_plain F _ _ (by rw [ho]; intro c hc'; cases hc')]
    simp [execOp, ho, resolve, invoke, builtin, hs, hx, hrun, Result.andThen]
    exact hK' _ _ (h v' w' r1 r2 r3)
end
end Go.Mine
