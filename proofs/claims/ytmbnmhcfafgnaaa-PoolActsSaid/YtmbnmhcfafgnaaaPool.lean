/-
  Package pool: how a pool lies in memory; none, Owner, Handles, Held, Free.
-/
import Derived.Test.YtmbnmhcfafgnaaaPoolSpec
namespace Go.Proofs.Ytmbnmhcfafgnaaa
open Go.RowKit Go.Mine

/-- The blocks of a pool: its array of frames, its map, its frames, their bytes. -/
structure PB where
  ab : Nat
  mb : Nat
  fbs : List Nat
  bos : List (Option Nat)
def PB.fb (B : PB) (i : Nat) : Nat := B.fbs.getD i 0
def PB.bo (B : PB) (i : Nat) : Option Nat := B.bos.getD i none
def PB.ins (B : PB) (N k : Nat) : Prop := k = B.ab ∨ k = B.mb ∨ (∃ i, i < N ∧ B.fb i = k) ∨ (∃ i, i < N ∧ B.bo i = some k)
def svB : Option Nat → Value
  | none => .slice none 0 0
  | some bb => .slice (some ⟨bb, 0, none⟩) 152064 152064
structure FrAt (w : World) (fb : Nat) (bo : Option Nat) (f : Fr) : Prop where
  blk : Blk w fb 85 [.int .i64 f.owner, .int .i64 f.handles, svB bo]
  len : f.data.length = 152064
  no : bo = none → f.data = List.replicate 152064 0
  yes : ∀ bb, bo = some bb → Blk w bb 5 (byteCells f.data)
structure PlR (w : World) (base N T : Nat) (B : PB) (fs : List Fr) (hf : Int → Option Int) : Prop where
  arr : Blk w B.ab 81 (B.fbs.map fun f => .pointer (some ⟨f, 0, none⟩))
  lf : B.fbs.length = N
  lb : B.bos.length = N
  ls : fs.length = N
  fr : ∀ i, i < N → FrAt w (B.fb i) (B.bo i) (frAt fs i)
  nf : ∀ i j, i < N → j < N → B.fb i = B.fb j → i = j
  nb : ∀ i j x, i < N → j < N → B.bo i = some x → B.bo j = some x → i = j
  map : MapI Try.prog 3 w B.mb T hf
  b1 : base ≤ B.ab ∧ base ≤ B.mb
  b2 : ∀ i, i < N → base ≤ B.fb i
  b3 : ∀ i x, i < N → B.bo i = some x → base ≤ x

section
variable {w w' : World} {base N T : Nat} {B : PB} {fs : List Fr} {hf : Int → Option Int} {S : List Nat}
theorem FrAt.only {fb : Nat} {bo : Option Nat} {f : Fr} (h : FrAt w fb bo f) (ht : OnlyIn S w w') (h1 : fb ∉ S) (h2 : ∀ bb, bo = some bb → bb ∉ S) : FrAt w' fb bo f :=
  ⟨h.blk.only ht h1, h.len, h.no, fun bb e => (h.yes bb e).only ht (h2 bb e)⟩
theorem PlR.only (h : PlR w base N T B fs hf) (ht : OnlyIn S w w') (hS : ∀ k ∈ S, ¬ B.ins N k) : PlR w' base N T B fs hf where
  arr := h.arr.only ht fun hm => hS _ hm (.inl rfl)
  lf := h.lf
  lb := h.lb
  ls := h.ls
  fr := fun i hi => (h.fr i hi).only ht (fun hm => hS _ hm (.inr (.inr (.inl ⟨i, hi, rfl⟩)))) (fun bb e hm => hS _ hm (.inr (.inr (.inr ⟨i, hi, e⟩))))
  nf := h.nf
  nb := h.nb
  map := h.map.only ht fun hm => hS _ hm (.inr (.inl rfl))
  b1 := h.b1
  b2 := h.b2
  b3 := h.b3
theorem PlR.lt (h : PlR w base N T B fs hf) {k : Nat} (hk : B.ins N k) : k < w.heap.size := by
  rcases hk with rfl | rfl | ⟨i, hi, rfl⟩ | ⟨i, hi, e⟩
  · exact h.arr.lt
  · exact h.map.lt
  · exact (h.fr i hi).blk.lt
  · exact ((h.fr i hi).yes k e).lt
theorem PlR.ge (h : PlR w base N T B fs hf) {k : Nat} (hk : B.ins N k) : base ≤ k := by
  rcases hk with rfl | rfl | ⟨i, hi, rfl⟩ | ⟨i, hi, e⟩
  · exact h.b1.1
  · exact h.b1.2
  · exact h.b2 i hi
  · exact h.b3 i k hi e
theorem PlR.out (h : PlR w base N T B fs hf) {k : Nat} {cur : Array Value} {t : TypeId} {q : Nat × Nat} (hk : w.heap[k]? = some (.cells cur t q)) (h1 : t ≠ 81) (h2 : t ≠ 85) (h3 : t ≠ 5) : ¬ B.ins N k := by
  have key : ∀ {k' : Nat} {t' : TypeId} {cs : List Value}, Blk w k' t' cs → t ≠ t' → k' ≠ k := fun hb ht e => by
    subst e
    unfold Blk at hb
    rw [hk] at hb
    injection hb with hb
    injection hb with _ hb
    exact ht hb
  rintro (e | e | ⟨i, hi, e⟩ | ⟨i, hi, e⟩)
  · exact key h.arr h1 e.symm
  · exact h.map.ne_cells hk e.symm
  · exact key (h.fr i hi).blk h2 e
  · exact key ((h.fr i hi).yes k e) h3 rfl
theorem PlR.ptr (h : PlR w base N T B fs hf) {i : Nat} (hi : i < N) : w.cell? ⟨B.ab, i, none⟩ = some (.pointer (some ⟨B.fb i, 0, none⟩)) := by
  have := h.lf
  refine h.arr.cell ?_
  rw [List.getElem?_map, List.getElem?_eq_getElem (by omega)]
  unfold PB.fb
  rw [List.getD_eq_getElem?_getD, List.getElem?_eq_getElem (by omega)]
  rfl
end

structure PlAt (w : World) (base b N T : Nat) (quota : Int) (B : PB) (iv : Value) (il : List Nat) (fs : List Fr) : Prop where
  blk : Blk w b 72 [.slice (some ⟨B.ab, 0, none⟩) N N, iv, .map (some B.mb), .int .i64 quota]
  sl : Sl w base 3 1 iv il.length (natCells il)
  pm : il.Perm (freeI fs)
  hp : HeapN ltN il il.length
  rest : PlR w base N T B fs (heldF fs)
  bb : base ≤ b
  bw : base ≤ w.heap.size
  q1 : 1 ≤ quota
  n64 : N ≤ 64
section
variable {w w' : World} {base b N T : Nat} {quota : Int} {B : PB} {iv : Value} {il : List Nat} {fs : List Fr} {S : List Nat}
theorem PlAt.only0 (h : PlAt w base b N T quota B iv il fs) (ht : OnlyIn [] w w') : PlAt w' base b N T quota B iv il fs :=
  ⟨h.blk.only ht (by simp), h.sl.only ht (by simp), h.pm, h.hp, h.rest.only ht (by simp), h.bb, Nat.le_trans h.bw ht.size, h.q1, h.n64⟩
theorem PlAt.ls (h : PlAt w base b N T quota B iv il fs) : fs.length = N := h.rest.ls
theorem PlAt.il_len (h : PlAt w base b N T quota B iv il fs) : il.length = (freeI fs).length ∧ il.length ≤ 64 := by
  have h1 := h.pm.length_eq
  have h2 := freeI_le fs
  have h3 := h.ls
  have h4 := h.n64
  exact ⟨h1, by omega⟩

set_option maxRecDepth 100000 in
theorem pl_none (h : PlAt w base b N T quota B iv il fs) : Calls Try.prog 55 #[.pointer (some ⟨b, 0, none⟩)] w fun e w' => e = .returned (.bool false) ∧ w = w' := by
  have c3 := h.blk.cell (i := 3) rfl
  have hq : (quota == 0) = false := by have := h.q1; simp; omega
  clear h
  go_enter Try.func55, Try.ntmps55
  go_wp2
  go_ret
  exact ⟨rfl, rfl⟩
set_option maxRecDepth 100000 in
theorem pl_none_nil (w : World) : Calls Try.prog 55 #[.pointer none] w fun e w' => e = .returned (.bool true) ∧ w = w' := by
  go_enter Try.func55, Try.ntmps55
  go_wp2
  go_ret
  exact ⟨rfl, rfl⟩
set_option maxRecDepth 100000 in
theorem pl_none_zero (w : World) (b : Nat) (h : w.cell? ⟨b, 3, none⟩ = some (.int .i64 0)) : Calls Try.prog 55 #[.pointer (some ⟨b, 0, none⟩)] w fun e w' => e = .returned (.bool true) ∧ w = w' := by
  go_enter Try.func55, Try.ntmps55
  go_wp2
  go_ret
  exact ⟨rfl, rfl⟩

/-- What a pool tells of a frame. -/
def ownF (fs : List Fr) (n : Int) : Int := if 0 ≤ n ∧ n < fs.length then (frAt fs n.toNat).owner else 0
def hanF (fs : List Fr) (n : Int) : Int := if 0 ≤ n ∧ n < fs.length then (frAt fs n.toNat).handles else 0

set_option maxRecDepth 100000 in
theorem pl_owner (h : PlAt w base b N T quota B iv il fs) (n : Int) : Calls Try.prog 34 #[.pointer (some ⟨b, 0, none⟩), .int .i64 n] w fun e w' => e = .returned (.int .i64 (ownF fs n)) ∧ w = w' := by
  have hno := pl_none h
  have c0 := h.blk.cell (i := 0) rfl
  have hls := h.ls
  unfold ownF
  rw [hls]
  by_cases h1 : n < 0
  · rw [if_neg (by omega)]
    have d1 : decide (n < 0) = true := decide_eq_true h1
    clear h
    go_enter Try.func34, Try.ntmps34
    go_wp2_with (go_at_call 55; refine hno.mono ?_; rintro e w' ⟨rfl, rfl⟩)
    go_ret
    exact ⟨rfl, rfl⟩
  have d1 : decide (n < 0) = false := decide_eq_false h1
  by_cases h2 : (N : Int) ≤ n
  · rw [if_neg (by omega)]
    have d2 : decide ((N : Int) ≤ n) = true := decide_eq_true h2
    clear h
    go_enter Try.func34, Try.ntmps34
    go_wp2_with (go_at_call 55; refine hno.mono ?_; rintro e w' ⟨rfl, rfl⟩)
    go_ret
    exact ⟨rfl, rfl⟩
  have d2 : decide ((N : Int) ≤ n) = false := decide_eq_false h2
  rw [if_pos (by omega)]
  obtain ⟨i, rfl⟩ := Int.eq_ofNat_of_zero_le (by omega : 0 ≤ n)
  have hi : i < N := by omega
  have c1 := h.rest.ptr hi
  have c2 := (h.rest.fr i hi).blk.cell (i := 0) rfl
  simp only [Int.toNat_natCast]
  obtain ⟨z, hz⟩ : ∃ z, (frAt fs i).owner = z := ⟨_, rfl⟩
  rw [hz] at c2 ⊢
  clear h hz
  go_enter Try.func34, Try.ntmps34
  go_wp2_with (go_at_call 55; refine hno.mono ?_; rintro e w' ⟨rfl, rfl⟩)
  go_ret
  exact ⟨rfl, rfl⟩
set_option maxRecDepth 100000 in
theorem pl_handles (h : PlAt w base b N T quota B iv il fs) (n : Int) : Calls Try.prog 33 #[.pointer (some ⟨b, 0, none⟩), .int .i64 n] w fun e w' => e = .returned (.int .i64 (hanF fs n)) ∧ w = w' := by
  have hno := pl_none h
  have c0 := h.blk.cell (i := 0) rfl
  have hls := h.ls
  unfold hanF
  rw [hls]
  by_cases h1 : n < 0
  · rw [if_neg (by omega)]
    have d1 : decide (n < 0) = true := decide_eq_true h1
    clear h
    go_enter Try.func33, Try.ntmps33
    go_wp2_with (go_at_call 55; refine hno.mono ?_; rintro e w' ⟨rfl, rfl⟩)
    go_ret
    exact ⟨rfl, rfl⟩
  have d1 : decide (n < 0) = false := decide_eq_false h1
  by_cases h2 : (N : Int) ≤ n
  · rw [if_neg (by omega)]
    have d2 : decide ((N : Int) ≤ n) = true := decide_eq_true h2
    clear h
    go_enter Try.func33, Try.ntmps33
    go_wp2_with (go_at_call 55; refine hno.mono ?_; rintro e w' ⟨rfl, rfl⟩)
    go_ret
    exact ⟨rfl, rfl⟩
  have d2 : decide ((N : Int) ≤ n) = false := decide_eq_false h2
  rw [if_pos (by omega)]
  obtain ⟨i, rfl⟩ := Int.eq_ofNat_of_zero_le (by omega : 0 ≤ n)
  have hi : i < N := by omega
  have c1 := h.rest.ptr hi
  have c2 := (h.rest.fr i hi).blk.cell (i := 1) rfl
  simp only [Int.toNat_natCast]
  obtain ⟨z, hz⟩ : ∃ z, (frAt fs i).handles = z := ⟨_, rfl⟩
  rw [hz] at c2 ⊢
  clear h hz
  go_enter Try.func33, Try.ntmps33
  go_wp2_with (go_at_call 55; refine hno.mono ?_; rintro e w' ⟨rfl, rfl⟩)
  go_ret
  exact ⟨rfl, rfl⟩
theorem hold_zero (w : World) : (zeroValue 88).run Try.prog w = .ok (.agg #[.int .i64 0]) w := by kernel_rfl
theorem hold_field (x : Int) (w : World) : (Instr.field 88 (.agg #[.int .i64 x]) 0).run Try.prog w = .ok (.int .i64 x) w := by kernel_rfl
theorem pl_look (h : PlAt w base b N T quota B iv il fs) (o : Int) (ho : -9223372036854775808 ≤ o ∧ o ≤ 9223372036854775807) : (Instr.lookup 70 (.map (some B.mb)) (.int .i64 o) false).run Try.prog w = .ok (.agg #[.int .i64 (heldN fs o)]) w := by
  have := h.rest.map.at (t := 70) (e := 88) Try.underlying3 Try.underlying70 (hold_zero w) o ho
  rw [heldF_getD] at this
  exact this
set_option maxRecDepth 100000 in
theorem pl_held (h : PlAt w base b N T quota B iv il fs) (o : Int) (ho : -9223372036854775808 ≤ o ∧ o ≤ 9223372036854775807) : Calls Try.prog 36 #[.pointer (some ⟨b, 0, none⟩), .int .i64 o] w fun e w' => e = .returned (.int .i64 (heldN fs o)) ∧ w = w' := by
  have hno := pl_none h
  have c2 := h.blk.cell (i := 2) rfl
  have hlk := pl_look h o ho
  have hfl := hold_field
  generalize heldN fs o = z at hlk
  clear h
  go_enter Try.func36, Try.ntmps36
  go_wp2_with (go_at_call 55; refine hno.mono ?_; rintro e w' ⟨rfl, rfl⟩)
  go_ret
  exact ⟨rfl, rfl⟩
set_option maxRecDepth 100000 in
theorem pl_free (h : PlAt w base b N T quota B iv il fs) : Calls Try.prog 38 #[.pointer (some ⟨b, 0, none⟩)] w fun e w' => e = .returned (.int .i64 ((freeI fs).length : Int)) ∧ w = w' := by
  have hno := pl_none h
  have c1 := h.blk.cell (i := 1) rfl
  obtain ⟨A, c, rfl, hc⟩ := h.sl.val
  rw [← h.il_len.1]
  generalize il.length = n at c1 hc
  clear h
  go_enter Try.func38, Try.ntmps38
  go_wp2_with (go_at_call 55; refine hno.mono ?_; rintro e w' ⟨rfl, rfl⟩)
  go_ret
  exact ⟨rfl, rfl⟩
end
end Go.Proofs.Ytmbnmhcfafgnaaa
