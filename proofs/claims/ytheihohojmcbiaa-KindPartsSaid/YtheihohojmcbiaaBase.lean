/-
  Own words for memory: a block known whole, a frame with a list of blocks that may turn, rows of structs. Nothing here names a program.
-/
import Derived.WalkKit
import Derived.RowKitTokens
import Derived.Deep.QuietTactic
import Derived.BigQuiet
import Derived.Deep.Draws
import Derived.Lib.Hide
import Derived.Laws.Rows
import Derived.Laws.ResultCell
import Derived.StillTail
import Derived.StillTactics
namespace Go.Mine
open Go.RowKit

/-- Block b is just the cells cs, of element type t, none frozen. -/
def Blk (w : World) (b : Nat) (t : TypeId) (cs : List Value) : Prop := w.heap[b]? = some (.cells cs.toArray t (0, 0))

/-- From w to w' the blocks of S, and new ones, alone may have turned. -/
structure OnlyIn (S : List Nat) (w w' : World) : Prop where
  os : w'.os = w.os
  tape : w'.tape = w.tape
  output : w'.output = w.output
  size : w.heap.size ≤ w'.heap.size
  block : ∀ k, k < w.heap.size → k ∉ S → w'.heap[k]? = w.heap[k]?

section
variable {S S' : List Nat} {w w' w'' : World} {b : Nat} {t : TypeId} {cs : List Value}

theorem OnlyIn.refl (S : List Nat) (w : World) : OnlyIn S w w := ⟨rfl, rfl, rfl, Nat.le_refl _, fun _ _ _ => rfl⟩
theorem OnlyIn.trans (h : OnlyIn S w w') (k : OnlyIn S w' w'') : OnlyIn S w w'' :=
  ⟨k.os.trans h.os, k.tape.trans h.tape, k.output.trans h.output, Nat.le_trans h.size k.size,
   fun i hi hn => (k.block i (Nat.lt_of_lt_of_le hi h.size) hn).trans (h.block i hi hn)⟩
theorem OnlyIn.mono (h : OnlyIn S w w') (hs : ∀ k, k < w.heap.size → k ∈ S → k ∈ S') : OnlyIn S' w w' :=
  ⟨h.os, h.tape, h.output, h.size, fun k hk hn => h.block k hk (fun hm => hn (hs k hk hm))⟩
/-- What the second step may turn is in S', or is new. -/
theorem OnlyIn.then (h : OnlyIn S w w') (k : OnlyIn S' w' w'') (hs : ∀ j, j ∈ S' → j ∈ S ∨ w.heap.size ≤ j) : OnlyIn S w w'' :=
  ⟨k.os.trans h.os, k.tape.trans h.tape, k.output.trans h.output, Nat.le_trans h.size k.size,
   fun i hi hn => (k.block i (Nat.lt_of_lt_of_le hi h.size) (fun hm => by
     rcases hs i hm with h1 | h1
     · exact hn h1
     · omega)).trans (h.block i hi hn)⟩
theorem OnlyIn.drew (h : OnlyIn S w w') : OnlyIn S w w'.drew := ⟨h.os, h.tape, h.output, h.size, h.block⟩
theorem OnlyIn.drewN (h : OnlyIn S w w') (n : Nat) : OnlyIn S w (w'.drewN n) := ⟨h.os, h.tape, h.output, h.size, h.block⟩
theorem OnlyIn.alloc (h : OnlyIn S w w') (o : Obj) : OnlyIn S w (w'.alloc o) :=
  ⟨h.os, h.tape, h.output, Nat.le_trans h.size (by simp), fun i hi hn => (Below.heap_alloc w' o i (Nat.lt_of_lt_of_le hi h.size)).trans (h.block i hi hn)⟩
theorem OnlyIn.setCell (h : OnlyIn S w w') {p : Addr} (hp : p.block ∈ S ∨ w.heap.size ≤ p.block) (u : Value) : OnlyIn S w (w'.setCell p u) :=
  ⟨h.os, h.tape, h.output, by simpa [World.setCell] using h.size, fun i hi hn => (Below.heap_setCell w' p u i (by
    rintro rfl
    rcases hp with hp | hp
    · exact hn hp
    · omega)).trans (h.block i hi hn)⟩
theorem OnlyIn.grown (h : OnlyIn S w w') {row : Option Nat} (hg : w'.grownBy w'' row) (hr : ∀ k, row = some k → k ∈ S ∨ w.heap.size ≤ k) : OnlyIn S w w'' :=
  ⟨hg.os.trans h.os, hg.tape.trans h.tape, hg.output.trans h.output, Nat.le_trans h.size hg.size, fun i hi hn => (hg.block i (Nat.lt_of_lt_of_le hi h.size) (fun e => by
    rcases hr i e.symm with hp | hp
    · exact hn hp
    · omega)).trans (h.block i hi hn)⟩
theorem OnlyIn.of_below (h : Below w.heap.size w w') : OnlyIn S w w' := ⟨h.os, h.tape, h.output, h.size, fun k hk _ => h.block k hk⟩
theorem OnlyIn.below {B : Nat} (h : OnlyIn S w w') (hB : B ≤ w.heap.size) (hs : ∀ k, k ∈ S → B ≤ k) : Below B w w' :=
  ⟨h.os, h.tape, h.output, h.size, fun k hk => h.block k (by omega) (fun hm => by have := hs k hm; omega)⟩
theorem OnlyIn.nil_below (h : OnlyIn [] w w') : Below w.heap.size w w' := h.below (Nat.le_refl _) (by simp)

/-- A quiet callee whose contract names the caller's world. -/
theorem OnlyIn.of_draws (h : ∃ k, w' = w.drewN k) : OnlyIn S w w' := by
  obtain ⟨k, rfl⟩ := h
  exact (OnlyIn.refl _ _).drewN k

theorem OnlyIn.cell (h : OnlyIn S w w') {p : Addr} {u : Value} (hc : w.cell? p = some u) (hp : p.block ∉ S) : w'.cell? p = some u :=
  (World.cell?_of_block (h.block p.block (World.block_lt_of_cell? w p hc) hp)).trans hc

theorem Blk.lt (h : Blk w b t cs) : b < w.heap.size := (Array.getElem?_eq_some_iff.1 h).1
theorem Blk.cell (h : Blk w b t cs) {i : Nat} {v : Value} (hi : cs[i]? = some v) : w.cell? ⟨b, i, none⟩ = some v := by
  unfold Blk at h
  simp [World.cell?, h, hi]
theorem Blk.free (h : Blk w b t cs) (i : Nat) : w.frozen? ⟨b, i, none⟩ = false := by
  unfold Blk at h
  simp [World.frozen?, h]
theorem Blk.drew (h : Blk w b t cs) : Blk w.drew b t cs := h
theorem Blk.drewN (h : Blk w b t cs) (n : Nat) : Blk (w.drewN n) b t cs := h
theorem Blk.new (w : World) (t : TypeId) (cs : List Value) : Blk (w.alloc (.cells cs.toArray t)) w.heap.size t cs := by
  show (w.heap.push _)[w.heap.size]? = _
  simp
theorem Blk.alloc (h : Blk w b t cs) (o : Obj) : Blk (w.alloc o) b t cs := (Below.heap_alloc w o b h.lt).trans h
theorem Blk.set (h : Blk w b t cs) (i : Nat) (u : Value) : Blk (w.setCell ⟨b, i, none⟩ u) b t (cs.set i u) := by
  unfold Blk at h ⊢
  simp [World.setCell, Array.getElem?_modify, h]
theorem Blk.far (h : Blk w b t cs) {p : Addr} (hp : b ≠ p.block) (u : Value) : Blk (w.setCell p u) b t cs := (Below.heap_setCell w p u b hp).trans h
theorem Blk.below {B : Nat} (h : Blk w b t cs) (hb : Below B w w') (hg : b < B) : Blk w' b t cs := (hb.block b hg).trans h
theorem Blk.only (h : Blk w b t cs) (ht : OnlyIn S w w') (hn : b ∉ S) : Blk w' b t cs := (ht.block b h.lt hn).trans h
theorem Blk.grown {row : Option Nat} (h : Blk w b t cs) (hb : w.grownBy w' row) (hg : some b ≠ row) : Blk w' b t cs := (hb.block b h.lt hg).trans h
theorem Blk.ne_ {b' : Nat} {t' : TypeId} {cs' : List Value} (h : Blk w b t cs) (h' : Blk w b' t' cs') (hne : t ≠ t') : b ≠ b' := by
  rintro rfl
  unfold Blk at h h'
  rw [h] at h'
  injection h' with h'
  injection h' with _ ht
  exact hne ht
end

theorem loadVar_blk {P : Program} {w : World} {b : Nat} {t ty : TypeId} {cs : List Value} {d : TypeDesc} (hb : Blk w b t cs) (hu : P.underlying ty = some d) (hd : (match d with | .struct _ | .array _ _ => true | _ => false) = true)
    (hi : (P.info? ty).map (·.size) = some cs.length) : (loadVar ty ⟨b, 0, none⟩).run P w = .ok (.agg cs.toArray) w :=
  run_loadVar_row w b t ty cs.toArray (0, 0) d hb hu hd (by simpa using hi)

/-- A function whose first result is a struct in a block of its own. -/
theorem results_row_tmp {P : Program} {w : World} {fn : Func} {p u : Tmp} {b : Nat} {t ty : TypeId} {cs : List Value} {d : TypeDesc} (h : fn.results = #[.cell p ty, .tmp u]) (tmps : Array Value) (hp : tmps.getD p undef = .pointer (some ⟨b, 0, none⟩))
    (hb : Blk w b t cs) (hu : P.underlying ty = some d) (hd : (match d with | .struct _ | .array _ _ => true | _ => false) = true) (hi : (P.info? ty).map (·.size) = some cs.length) :
    (results fn tmps).run P w = .ok (.tuple #[.agg cs.toArray, tmps.getD u undef]) w := by
  rw [results_cell_tmp h, hp]
  have ha : (asAddr (.pointer (some ⟨b, 0, none⟩))).run P w = .ok ⟨b, 0, none⟩ w := rfl
  rw [ha]
  simp only [Result.andThen, loadVar_blk hb hu hd hi]

/-! ### Rows of structs: k cells each -/
section
variable {α : Type} {f : α → List Value} {k : Nat}

theorem flat_length (hf : ∀ x, (f x).length = k) (xs : List α) : (xs.flatMap f).length = xs.length * k := by
  induction xs with
  | nil => simp
  | cons x xs ih => simp [hf, ih, Nat.add_mul, Nat.add_comm]

theorem flat_get (hf : ∀ x, (f x).length = k) (xs : List α) (i j : Nat) (hj : j < k) : (xs.flatMap f)[i * k + j]? = xs[i]?.bind fun x => (f x)[j]? := by
  induction xs generalizing i with
  | nil => simp
  | cons x xs ih =>
    cases i with
    | zero => simp only [List.flatMap_cons, Nat.zero_mul, Nat.zero_add, List.getElem?_cons_zero, Option.bind_some]; rw [List.getElem?_append_left (by rw [hf]; exact hj)]
    | succ i =>
      rw [List.flatMap_cons, List.getElem?_append_right (by rw [hf, Nat.add_mul]; omega), List.getElem?_cons_succ, ← ih i, hf]
      congr 1
      rw [Nat.add_mul]; omega

theorem flat_get_div (hf : ∀ x, (f x).length = k) (hk : 0 < k) (xs : List α) (n : Nat) : (xs.flatMap f)[n]? = xs[n / k]?.bind fun x => (f x)[n % k]? := by
  have h := flat_get hf xs (n / k) (n % k) (Nat.mod_lt _ hk)
  rw [← h]
  congr 1
  have := Nat.div_add_mod n k
  rw [Nat.mul_comm] at this
  omega

/-- A row whose i-th struct is written anew, given by what each cell reads. -/
theorem flat_set_of (hf : ∀ x, (f x).length = k) (hk : 0 < k) (xs : List α) (i : Nat) (hi : i < xs.length) (y : α) (l : List Value)
    (hsame : ∀ j, j < k → l[i * k + j]? = (f y)[j]?) (hother : ∀ n, n / k ≠ i → l[n]? = (xs.flatMap f)[n]?) : l = (xs.set i y).flatMap f := by
  apply List.ext_getElem?
  intro n
  rw [flat_get_div hf hk]
  by_cases hn : n / k = i
  · have h1 := hsame (n % k) (Nat.mod_lt _ hk)
    have h2 : i * k + n % k = n := by have := Nat.div_add_mod n k; rw [hn, Nat.mul_comm] at this; exact this
    rw [h2] at h1
    rw [h1, hn, List.getElem?_set_self hi]
    rfl
  · rw [hother n hn, flat_get_div hf hk, List.getElem?_set_ne (Ne.symm hn)]

theorem flat_set4 (hf : ∀ x, (f x).length = 4) (xs : List α) (i : Nat) (hi : i < xs.length) (y : α) {a b c d : Value} (hy : f y = [a, b, c, d]) :
    ((((xs.flatMap f).set (i * 4) a).set (i * 4 + 1) b).set (i * 4 + 2) c).set (i * 4 + 3) d = (xs.set i y).flatMap f := by
  have hl := flat_length hf xs
  refine flat_set_of hf (by omega) xs i hi y _ ?_ ?_
  · intro j hj
    have hb : i * 4 + j < xs.length * 4 := by omega
    rw [hy]
    simp only [List.getElem?_set, List.length_set, hl]
    match j, hj with
    | 0, _ => simp; omega
    | 1, _ => simp; omega
    | 2, _ => simp; omega
    | 3, _ => simp; omega
  · intro n hn
    rw [List.getElem?_set_ne (by omega), List.getElem?_set_ne (by omega), List.getElem?_set_ne (by omega), List.getElem?_set_ne (by omega)]
end

/-- What make lays for n structs, as a row. -/
theorem made_flat {α : Type} {f : α → List Value} {k : Nat} (hf : ∀ x, (f x).length = k) (hk : 0 < k) (x : α) {z : Array Value} (hz : z = (f x).toArray) (n : Nat) :
    madeCells z (n * k) = ((List.replicate n x).flatMap f).toArray := by
  apply Array.ext'
  apply List.ext_getElem?
  intro j
  subst hz
  show _ = ((List.replicate n x).flatMap f)[j]?
  rw [flat_get_div hf hk, List.getElem?_replicate]
  have hlen := hf x
  by_cases hj : j < n * k
  · have hd : j / k < n := Nat.div_lt_of_lt_mul (by rw [Nat.mul_comm]; exact hj)
    have hm : j % k < (f x).length := by rw [hlen]; exact Nat.mod_lt _ hk
    rw [if_pos hd]
    simp [madeCells, hj, hlen, List.getElem?_eq_getElem hm]
  · have hd : ¬ j / k < n := fun h => hj (by rw [Nat.mul_comm]; exact (Nat.div_lt_iff_lt_mul hk).1 h |> (by rw [Nat.mul_comm]; exact ·))
    rw [if_neg hd]
    simp [madeCells]
    omega

/-- make of n elements. -/
theorem run_make_n {P : Program} (t e : TypeId) (i : TypeInfo) (z : Value) (ht : P.underlying t = some (.slice e)) (hi : P.info? e = some i) (hz : i.zero = some z)
    (kl kc : IntKind) (n : Nat) (hbytes : i.bytes * n ≤ 281474976710656) (h63 : n ≤ 9223372036854775807) (w : World) :
    (Instr.makeSlice t (.int kl (n : Int)) (.int kc (n : Int))).run P w = .ok (.slice (some ⟨w.heap.size, 0, none⟩) n n) (w.alloc (.cells (madeCells z.cells (n * i.size)) e)) := by
  have hb : (i.bytes : Int) * (n : Int) ≤ 281474976710656 := by
    have h : ((i.bytes * n : Nat) : Int) ≤ 281474976710656 := by omega
    rwa [Int.natCast_mul] at h
  have hr := run_make (P := P) w t e i z ht hi hz kl kc n n (by omega) (by omega) hb (by omega)
  simp only [Int.toNat_natCast] at hr
  exact hr

theorem mod_ne_of_lt {a b N : Nat} (h1 : a < b) (h2 : b - a < N) : a % N ≠ b % N := by
  intro h
  have hz : (b - a) % N = 0 := Nat.sub_mod_eq_zero_of_mod_eq h.symm
  rw [Nat.mod_eq_of_lt h2] at hz
  omega

/-- A callee that leaves the world alone, within a quiet region. -/
theorem quiet_left {P : Program} {f : FuncId} {args : Array Value} {w : World} {n : Nat} {v : Value}
    (h : Calls P f args (w.drewN n) fun e w' => e = .returned v ∧ w.drewN n = w') : Calls P f args (w.drewN n) fun e w'' => e = .returned v ∧ ∃ m, w'' = w.drewN m :=
  h.mono fun _ _ ⟨he, hm⟩ => ⟨he, n, hm.symm⟩

/-- The kit's law of still heads, its world by its name. -/
theorem wp_region_tail {P : Program} {id : Nat} {Q : Exit → Act → World → Prop} {a : Act} {w : World} {l : List Oper} (n : Nat) (hB : Region.lexTailB .any l.toArray n = true) (hm : P.follows .mixedOrders = true)
    (h : wpStill P l.toArray w.drew (fun a' => wpList P l.toArray Q (l.drop n) a' w.drew) (l.take n) a) : (Code.region id l.toArray true).wp P Q a w :=
  wp_region_still_tail n hm hB h

end Go.Mine
