/-
  Law 01: BitsBack.
-/
import Derived.Test.YtejomjkkjcnfnaaActs01
import Derived.Test.YtejomjkkjcnfnaaKnown01
namespace Go.Mine
open Go.RowKit
theorem Sl.ne_sl {w : World} {b1 b2 e1 e2 z1 z2 n1 n2 : Nat} {v1 v2 : Value} {x1 x2 : List Value} (h1 : Sl w b1 e1 z1 v1 n1 x1) (h2 : Sl w b2 e2 z2 v2 n2 x2) (hne : e1 ≠ e2) : ∀ g, v1.ownBlock = some g → v2.ownBlock ≠ some g := by
  intro g hg hg2
  obtain ⟨c1, k1⟩ := h1.type_ g hg
  obtain ⟨c2, k2⟩ := h2.type_ g hg2
  rw [k1] at k2
  injection k2 with k2
  injection k2 with _ k2
  exact hne k2
/-- What an act writes; none: it is refused. -/
def actBits (a : Act01) : Option (List Nat) :=
  if a.codes then (if Is01 a.s then some (digs a.s) else none) else (if 0 ≤ a.b ∧ a.b ≤ 32 ∧ 0 ≤ a.n ∧ a.n < 2 ^ a.b.toNat then some (bitsOf a.n.toNat a.b.toNat) else none)
def actOk (a : Act01) : Bool := (actBits a).isSome
def allBits (l : List Act01) : List Nat := l.flatMap fun a => (actBits a).getD []
theorem allBits_append (l m : List Act01) : allBits (l ++ m) = allBits l ++ allBits m := by simp [allBits]
theorem allBits_one (a : Act01) : allBits [a] = (actBits a).getD [] := by simp [allBits]
theorem allBits_filter (l : List Act01) : allBits (l.filter actOk) = allBits l := by
  induction l with
  | nil => rfl
  | cons a l ih =>
    rw [List.filter_cons]
    split
    · rw [show a :: l.filter actOk = [a] ++ l.filter actOk from rfl, allBits_append, ih, ← allBits_append]; rfl
    · rename_i h
      rw [ih, show a :: l = [a] ++ l from rfl, allBits_append, allBits_one]
      have : actBits a = none := by simpa [actOk] using h
      rw [this]; rfl
theorem actBits_len {a : Act01} (hs : a.s.length ≤ 100) : ((actBits a).getD []).length ≤ 100 := by
  unfold actBits
  split
  · split
    · simp [digs_length]; exact hs
    · simp
  · split
    · rename_i h; simp [bitsOf_length]; omega
    · simp
theorem allBits_len {l : List Act01} (hs : ∀ a ∈ l, a.s.length ≤ 100) : (allBits l).length ≤ 100 * l.length := by
  induction l with
  | nil => simp [allBits]
  | cons a l ih =>
    rw [show a :: l = [a] ++ l from rfl, allBits_append, allBits_one]
    have h1 := actBits_len (hs a (List.mem_cons_self ..))
    have h2 := ih (fun b hb => hs b (List.mem_cons_of_mem _ hb))
    simp only [List.length_append, List.length_cons, List.length_nil]
    omega
theorem numAt_of_bits {bs : List UInt8} (p k n : Nat) (hn : n < 2 ^ k) (h : ∀ t, t < k → bitAt bs (p + t) = n / 2 ^ (k - 1 - t) % 2) : numAt bs p k = n := by
  induction k generalizing n with
  | zero => simp at hn; simp [numAt, hn]
  | succ k ih =>
    rw [numAt]
    have h1 := ih (n / 2) (by rw [Nat.pow_succ] at hn; omega) (fun t ht => by
      rw [h t (by omega), Nat.div_div_eq_div_mul, ← Nat.pow_succ']
      congr 3
      omega)
    have h2 := h k (by omega)
    rw [h1, h2]
    simp
    omega
theorem pack_bit {L : List Nat} (hb : Bin L) {i : Nat} (hi : i < L.length) : bitAt (pack L) i = L.getD i 0 := bitAt_pack hb i (by omega)
/-- Reading a number where it was put. -/
theorem read_put {P R : List Nat} {n k : Nat} (hk : k ≤ 32) (hn : n < 2 ^ k) (hb : Bin (P ++ bitsOf n k ++ R)) : readOf (pack (P ++ bitsOf n k ++ R)) (P.length : Int) (k : Int) = ((n : Int), 0) := by
  have hpl := pack_length (P ++ bitsOf n k ++ R)
  have hl : (P ++ bitsOf n k ++ R).length = P.length + k + R.length := by simp [bitsOf_length]; omega
  rw [readOf_ok hk (by rw [hpl, hl]; omega), numAt_of_bits P.length k n hn (fun t ht => by
    rw [pack_bit hb (by rw [hl]; omega), List.getD_eq_getElem?_getD, List.append_assoc, List.getElem?_append_right (by omega), show P.length + t - P.length = t by omega,
      List.getElem?_append_left (by rw [bitsOf_length]; exact ht), bitsOf_get n k t ht]
    rfl)]
/-- Reading a bit. -/
theorem read_bit {L : List Nat} (hb : Bin L) {i : Nat} (hi : i < L.length) : readOf (pack L) (i : Int) 1 = (((L.getD i 0 : Nat) : Int), 0) := by
  have hpl := pack_length L
  have := readOf_ok (bs := pack L) (i := i) (n := 1) (by omega) (by rw [hpl]; omega)
  rw [show ((1 : Nat) : Int) = 1 from rfl] at this
  rw [this, show numAt (pack L) i 1 = bitAt (pack L) i from by simp [numAt], pack_bit hb hi]
theorem read_left {L : List Nat} (hb : Bin L) {k : Nat} (hk : L.length + k = 8 * ((L.length + 7) / 8)) : readOf (pack L) (L.length : Int) (k : Int) = (0, 0) := by
  have hpl := pack_length L
  rw [readOf_ok (by omega) (by rw [hpl]; omega), (numAt_zero _ _ _).2 (fun j hj => by
    rw [bitAt_pack hb _ (by omega), List.getD_eq_getElem?_getD, List.getElem?_eq_none (by omega)]; rfl)]
  rfl
end Go.Mine
namespace Go.Proofs.Ytejomjkkjcnfnaa
open Go.RowKit Go.Mine

theorem Try.infoAct01 : (Try.prog.info? 23).map (fun i => (i.zero, i.size, i.bytes)) = some (some (.agg #[.bool false, .int .i64 0, .int .i64 0, .string ByteArray.empty]), 4, 40) := by kernel_rfl

/-- Behind k acts: the pen, and what is kept. -/
def backAt (w : World) (b : Nat) (l : List Act01) (kv i : Value) (wr : World) : Prop :=
  ∃ (k : Nat) (v : Value), k ≤ l.length ∧ i = .int .i64 (k : Int) ∧ PenAt wr (b + 1) b v (allBits (l.take k)) ∧ OnlyIn [] w wr ∧
    Sl wr w.heap.size 23 4 kv ((l.take k).filter actOk).length (((l.take k).filter actOk).flatMap Act01.cells)

theorem back_keep {w wr : World} {b : Nat} {l : List Act01} {v kv : Value} {k : Nat} (hb : w.heap.size ≤ b) (hk : k < l.length) (hno : actBits (l[k]'hk) = none) (hP : PenAt wr (b + 1) b v (allBits (l.take k))) (hto : OnlyIn [] w wr)
    (hs : Sl wr w.heap.size 23 4 kv ((l.take k).filter actOk).length (((l.take k).filter actOk).flatMap Act01.cells)) : backAt w b l kv (.int .i64 ((k + 1 : Nat) : Int)) wr := by
  have ht : l.take (k + 1) = l.take k ++ [l[k]'hk] := List.take_succ_eq_append_getElem hk
  have hf : (l.take (k + 1)).filter actOk = (l.take k).filter actOk := by rw [ht, List.filter_append]; simp [actOk, hno]
  have ha : allBits (l.take (k + 1)) = allBits (l.take k) := by rw [ht, allBits_append, allBits_one, hno]; simp
  exact ⟨k + 1, v, by omega, rfl, by rw [ha]; exact hP, hto, by rw [hf]; exact hs⟩

/-- The pen wrote an act. -/
theorem back_pen {w wr w2 : World} {b : Nat} {l : List Act01} {v v2 kv : Value} {k : Nat} {x : List Nat} (hb : w.heap.size ≤ b) (hP : PenAt wr (b + 1) b v (allBits (l.take k))) (hto : OnlyIn [] w wr)
    (hs : Sl wr w.heap.size 23 4 kv ((l.take k).filter actOk).length (((l.take k).filter actOk).flatMap Act01.cells))
    (hP2 : PenAt w2 (b + 1) b v2 x) (ht : OnlyIn (b :: v.ownBlock.toList) wr w2) :
    OnlyIn [] w w2 ∧ Sl w2 w.heap.size 23 4 kv ((l.take k).filter actOk).length (((l.take k).filter actOk).flatMap Act01.cells) := by
  refine ⟨hto.then ht (fun j hj => ?_), hs.only ht (fun g hg => ?_)⟩
  · simp only [List.mem_cons, Option.mem_toList] at hj
    rcases hj with hj | hj
    · exact .inr (by omega)
    · have := (hP.sl.own_lt j hj).1
      exact .inr (by omega)
  · simp only [List.mem_cons, Option.mem_toList]
    rintro (h | h)
    · subst h; exact hs.ne_blk hP.blk (by decide) hg
    · exact hs.ne_sl hP.sl (by decide) g hg h

/-- And it was kept. -/
theorem back_app {w w2 w3 : World} {b : Nat} {l : List Act01} {v2 kv kv3 : Value} {k : Nat} {x : List Nat} (hk : k < l.length) (hyes : actBits (l[k]'hk) = some x) (hP2 : PenAt w2 (b + 1) b v2 (allBits (l.take k) ++ x)) (hto : OnlyIn [] w w2) (C : Obj)
    (hs : Sl w2 w.heap.size 23 4 kv ((l.take k).filter actOk).length (((l.take k).filter actOk).flatMap Act01.cells))
    (hs3 : Sl w3 w.heap.size 23 4 kv3 (((l.take k).filter actOk).length + 1) (((l.take k).filter actOk).flatMap Act01.cells ++ (l[k]'hk).cells)) (hg : (w2.alloc C).grownBy w3 kv.ownBlock) : backAt w b l kv3 (.int .i64 ((k + 1 : Nat) : Int)) w3 := by
  have ht : l.take (k + 1) = l.take k ++ [l[k]'hk] := List.take_succ_eq_append_getElem hk
  have hf : (l.take (k + 1)).filter actOk = (l.take k).filter actOk ++ [l[k]'hk] := by rw [ht, List.filter_append]; simp [actOk, hyes]
  have ha : allBits (l.take (k + 1)) = allBits (l.take k) ++ x := by rw [ht, allBits_append, allBits_one, hyes]; rfl
  have hPa := hP2.only0 ((OnlyIn.refl [] w2).alloc C)
  refine ⟨k + 1, v2, by omega, rfl, ?_, (hto.alloc C).grown hg (fun g hg => .inr (hs.own_lt g hg).1), ?_⟩
  · rw [ha]
    refine ⟨hPa.blk.grown hg (fun e => hs.ne_blk hP2.blk (by decide) e.symm), hPa.sl.grown hg (fun g hg1 e => ?_), hPa.bin, hPa.small⟩
    exact hP2.sl.ne_sl hs (by decide) g hg1 e.symm
  · rw [hf, List.length_append, List.flatMap_append]
    simpa using hs3
end Go.Proofs.Ytejomjkkjcnfnaa
