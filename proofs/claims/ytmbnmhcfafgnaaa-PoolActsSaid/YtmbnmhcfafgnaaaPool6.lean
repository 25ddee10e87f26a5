/-
  Package pool: memory, Memory, Look.
-/
import Derived.Test.YtmbnmhcfafgnaaaPool5
import Derived.Test.YtmbnmhcfafgnaaaKitBytes
import Derived.Test.YtmbnmhcfafgnaaaOwn
import Derived.Lib.SliceRun
namespace Go.Proofs.Ytmbnmhcfafgnaaa
open Go.RowKit Go.Mine

theorem mk_u8 (n : Nat) (hn : n ≤ 1000000) (W : World) : (Instr.makeSlice 54 (.int .i64 (n : Int)) (.int .i64 (n : Int))).run Try.prog W = .ok (.slice (some ⟨W.heap.size, 0, none⟩) n n) (W.alloc (.cells (byteCells (List.replicate n 0)).toArray 5)) := by
  obtain ⟨i0, hi0, hz0, hz1, hz2⟩ := info_parts Try.infoB
  have hmk := run_make_n (P := Try.prog) 54 5 i0 (.int .u8 0) Try.underlying54 hi0 hz0 .i64 .i64 n (by rw [hz2]; omega) (by omega) W
  have hmf : madeCells (Value.int .u8 0).cells (n * i0.size) = (byteCells (List.replicate n 0)).toArray := by
    rw [hz1, Nat.mul_one]
    apply Array.ext'
    apply List.ext_getElem?
    intro j
    simp only [madeCells, Value.cells, byteCells, List.map_replicate]
    rw [List.getElem?_replicate]
    by_cases hj : j < n
    · simp [hj, Nat.mod_one]
    · simp [hj]
  rw [hmf] at hmk
  exact hmk
theorem slEq_some (x n c : Nat) (W : World) : (binOp .eql 54 (.slice (some ⟨x, 0, none⟩) n c) (.slice none 0 0)).run Try.prog W = .ok (.bool false) W := by kernel_rfl
set_option maxRecDepth 100000 in
theorem slEq_none (W : World) : (binOp .eql 54 (.slice none 0 0) (.slice none 0 0)).run Try.prog W = .ok (.bool true) W := by kernel_rfl
section
variable {w w1 w' : World} {base b N T : Nat} {quota : Int} {B : PB} {iv iv1 : Value} {il : List Nat} {fs fs1 : List Fr}
set_option maxRecDepth 100000 in
set_option maxHeartbeats 1000000 in
theorem mem_any {fb : Nat} {bo : Option Nat} {f : Fr} (h : FrAt w fb bo f) :
    Calls Try.prog 57 #[.pointer (some ⟨fb, 0, none⟩)] w fun e w' => ∃ x, e = .returned (.slice (some ⟨x, 0, none⟩) 152064 152064) ∧ FrAt w' fb (some x) f ∧ OnlyIn [fb] w w' ∧ (bo = some x ∨ (bo = none ∧ w.heap.size ≤ x)) := by
  have HH := Lib.hid h
  have c2 := h.blk.cell (i := 2) rfl
  have q1 := slEq_some
  have q2 := slEq_none
  cases bo with
  | some x =>
    simp only [svB] at c2
    clear h
    go_enter Try.func57, Try.ntmps57
    go_wp2_with fail
    go_ret
    exact ⟨x, rfl, HH.out, OnlyIn.refl _ _, .inl rfl⟩
  | none =>
    simp only [svB] at c2
    have hd := h.no rfl
    have hmk := mk_u8 152064 (by omega) w
    rw [← hd] at hmk
    have hmk2 : (Instr.makeSlice 54 (.int .i64 152064) (.int .i64 152064)).run Try.prog w = .ok (.slice (some ⟨w.heap.size, 0, none⟩) 152064 152064) (w.alloc (.cells (byteCells f.data).toArray 5)) := hmk
    have hb := h.blk.alloc (.cells (byteCells f.data).toArray 5)
    have hn := Blk.new w 5 (byteCells f.data)
    have f2 := hb.free 2
    have g2 := hb.cell (i := 2) rfl
    have hlt := h.blk.lt
    have hout : FrAt ((w.alloc (.cells (byteCells f.data).toArray 5)).setCell ⟨fb, 2, none⟩ (.slice (some ⟨w.heap.size, 0, none⟩) 152064 152064)) fb (some w.heap.size) f :=
      ⟨hb.set 2 (.slice (some ⟨w.heap.size, 0, none⟩) 152064 152064), h.len, (fun e => absurd e (by simp)), fun bb e => by
        injection e with e
        subst e
        exact hn.far (p := ⟨fb, 2, none⟩) (fun e => by simp at e; omega) _⟩
    rw [World.setCell_alloc_past _ _ _ _ hlt] at hout
    have HO := Lib.hid hout
    clear hmk hd h hb hn hout
    generalize (byteCells f.data).toArray = Z at hmk2 HO f2 g2
    go_enter Try.func57, Try.ntmps57
    go_wp2_with fail
    go_ret
    refine ⟨_, rfl, HO.out, ((OnlyIn.refl _ _).setCell (.inl (by simp)) _).alloc _, .inr ⟨?_, Nat.le_refl _⟩⟩
    trivial

/-- A frame's bytes are at x now. -/
def PB.mem (B : PB) (i x : Nat) : PB := ⟨B.ab, B.mb, B.fbs, B.bos.set i (some x)⟩
theorem PB.mem_fb (B : PB) (i x j : Nat) : (B.mem i x).fb j = B.fb j := rfl
theorem PB.mem_bo (B : PB) {i : Nat} (x : Nat) (hi : i < B.bos.length) : (B.mem i x).bo i = some x := by
  unfold PB.mem PB.bo
  rw [List.getD_eq_getElem?_getD, List.getElem?_set_self hi]
  rfl
theorem PB.mem_bo_ne (B : PB) {i j : Nat} (x : Nat) (h : i ≠ j) : (B.mem i x).bo j = B.bo j := by
  unfold PB.mem PB.bo
  rw [List.getD_eq_getElem?_getD, List.getD_eq_getElem?_getD, List.getElem?_set_ne h]
/-- The blocks of two pools: the bytes of the latter are as they were, or new. -/
def PB.more (B B' : PB) (N n : Nat) : Prop := B'.ab = B.ab ∧ B'.mb = B.mb ∧ B'.fbs = B.fbs ∧ ∀ i y, i < N → B'.bo i = some y → B.bo i = some y ∨ n ≤ y
theorem PB.more_refl (B : PB) (N n : Nat) : B.more B N n := ⟨rfl, rfl, rfl, fun _ _ _ h => .inl h⟩
theorem PlR.memo {hf : Int → Option Int} (h : PlR w base N T B fs hf) {i x : Nat} (hi : i < N) (hx : B.bo i = some x ∨ (B.bo i = none ∧ w.heap.size ≤ x)) (hbw : base ≤ w.heap.size) (ht : OnlyIn [B.fb i] w w') {f : Fr} (hf' : FrAt w' (B.fb i) (some x) f) : PlR w' base N T (B.mem i x) (fs.set i f) hf := by
  have hib : i < B.bos.length := by rw [h.lb]; exact hi
  have hbo : ∀ j y, j < N → (B.mem i x).bo j = some y → (j = i ∧ y = x) ∨ (j ≠ i ∧ B.bo j = some y) := by
    intro j y hj hy
    by_cases e : i = j
    · subst e
      rw [B.mem_bo x hib] at hy
      injection hy with hy
      exact .inl ⟨rfl, hy.symm⟩
    · rw [B.mem_bo_ne x e] at hy
      exact .inr ⟨fun k => e k.symm, hy⟩
  have hxn : ∀ j y, j < N → j ≠ i → B.bo j = some y → y ≠ x := by
    intro j y hj hne hy e
    subst e
    rcases hx with hx | ⟨-, hx⟩
    · exact hne (h.nb j i y hj hi hy hx)
    · have := h.lt (.inr (.inr (.inr ⟨j, hj, hy⟩)))
      omega
  refine ⟨h.arr.only ht fun hm => ?_, h.lf, by unfold PB.mem; rw [List.length_set]; exact h.lb, by rw [List.length_set]; exact h.ls, fun j hj => ?_, h.nf, fun j1 j2 y h1 h2 y1 y2 => ?_, h.map.only ht fun hm => ?_, h.b1, h.b2, fun j y hj hy => ?_⟩
  · simp only [List.mem_singleton] at hm
    exact h.arr.ne_ (h.fr i hi).blk (by decide) hm
  · by_cases e : i = j
    · subst e
      rw [frAt_set_same (by rw [h.ls]; exact hi), B.mem_bo x hib]
      exact hf'
    · rw [frAt_set_ne e, B.mem_bo_ne x e]
      refine (h.fr j hj).only ht (fun hm => ?_) (fun bb hb hm => ?_)
      · simp only [List.mem_singleton] at hm
        exact e (h.nf i j hi hj hm.symm)
      · simp only [List.mem_singleton] at hm
        exact ((h.fr j hj).yes bb hb).ne_ (h.fr i hi).blk (by decide) hm
  · rcases hbo _ _ h1 y1 with ⟨e1, e2⟩ | ⟨e1, e2⟩ <;> rcases hbo _ _ h2 y2 with ⟨e3, e4⟩ | ⟨e3, e4⟩
    · rw [e1, e3]
    · exact absurd e2 (hxn _ _ h2 e3 e4)
    · exact absurd e4 (hxn _ _ h1 e1 e2)
    · exact h.nb _ _ _ h1 h2 e2 e4
  · simp only [List.mem_singleton] at hm
    exact h.map.ne_blk (h.fr i hi).blk hm
  · rcases hbo _ _ hj hy with ⟨e1, e2⟩ | ⟨e1, e2⟩
    · subst e2
      rcases hx with hx | ⟨-, hx⟩
      · exact h.b3 i y hi hx
      · omega
    · exact h.b3 j y hj e2
theorem frAt_self {i : Nat} (h : i < fs.length) : fs.set i (frAt fs i) = fs := by rw [frAt_eq h, List.set_getElem_self]
theorem PlAt.memo (h : PlAt w base b N T quota B iv il fs) {i x : Nat} (hi : i < N) (hx : B.bo i = some x ∨ (B.bo i = none ∧ w.heap.size ≤ x)) (ht : OnlyIn [B.fb i] w w') (hf' : FrAt w' (B.fb i) (some x) (frAt fs i)) : PlAt w' base b N T quota (B.mem i x) iv il fs ∧ B.more (B.mem i x) N w.heap.size := by
  have hR := h.rest.memo hi hx h.bw ht hf'
  rw [frAt_self (by rw [h.ls]; exact hi)] at hR
  refine ⟨⟨h.blk.only ht fun hm => ?_, h.sl.only ht fun g hg hm => ?_, h.pm, h.hp, hR, h.bb, Nat.le_trans h.bw ht.size, h.q1, h.n64⟩, rfl, rfl, rfl, fun j y hj hy => ?_⟩
  · simp only [List.mem_singleton] at hm
    exact h.outs b (by simp) (.inr (.inr (.inl ⟨i, hi, hm.symm⟩)))
  · simp only [List.mem_singleton] at hm
    exact h.outs g (by simp [hg]) (.inr (.inr (.inl ⟨i, hi, hm.symm⟩)))
  · by_cases e : i = j
    · subst e
      rw [B.mem_bo x (by rw [h.rest.lb]; exact hi)] at hy
      injection hy with hy
      subst hy
      exact hx.elim .inl (fun hh => .inr hh.2)
    · rw [B.mem_bo_ne x e] at hy
      exact .inl hy
/-- A byte of a frame. -/
theorem PlAt.write (h : PlAt w base b N T quota B iv il fs) {i x : Nat} (hi : i < N) (hx : B.bo i = some x) (at_ : Nat) (v : UInt8) :
    PlAt (w.setCell ⟨x, at_, none⟩ (.int .u8 (v.toNat : Int))) base b N T quota B iv il (fs.set i ⟨(frAt fs i).owner, (frAt fs i).handles, (frAt fs i).data.set at_ v⟩) := by
  have hF := h.rest.fr i hi
  have hX := hF.yes x hx
  have ht : OnlyIn [x] w (w.setCell ⟨x, at_, none⟩ (.int .u8 (v.toNat : Int))) := (OnlyIn.refl _ _).setCell (.inl (by simp)) _
  have hil : i < fs.length := by rw [h.ls]; exact hi
  have hfree : freeI (fs.set i ⟨(frAt fs i).owner, (frAt fs i).handles, (frAt fs i).data.set at_ v⟩) = freeI fs := by
    unfold freeI
    rw [List.length_set]
    refine List.filter_congr fun j hj => ?_
    by_cases e : i = j
    · subst e; rw [frAt_set_same hil]
    · rw [frAt_set_ne e]
  have hheld : ∀ y, heldF (fs.set i ⟨(frAt fs i).owner, (frAt fs i).handles, (frAt fs i).data.set at_ v⟩) y = heldF fs y := fun y => by
    have := cntO_set fs hil ⟨(frAt fs i).owner, (frAt fs i).handles, (frAt fs i).data.set at_ v⟩ y
    simp only at this
    unfold heldF
    rw [show cntO (fs.set i ⟨(frAt fs i).owner, (frAt fs i).handles, (frAt fs i).data.set at_ v⟩) y = cntO fs y by omega]
  have hin : B.ins N x := .inr (.inr (.inr ⟨i, hi, hx⟩))
  refine ⟨h.blk.only ht fun hm => ?_, h.sl.only ht fun g hg hm => ?_, by rw [hfree]; exact h.pm, h.hp, ⟨h.rest.arr.only ht fun hm => ?_, h.rest.lf, h.rest.lb, by rw [List.length_set]; exact h.rest.ls, fun j hj => ?_, h.rest.nf, h.rest.nb, (h.rest.map.only ht fun hm => ?_).ext fun y _ => hheld y, h.rest.b1, h.rest.b2, h.rest.b3⟩, h.bb, by simpa using h.bw, h.q1, h.n64⟩
  · simp only [List.mem_singleton] at hm
    exact h.outs b (by simp) (by rw [hm]; exact hin)
  · simp only [List.mem_singleton] at hm
    exact h.outs g (by simp [hg]) (by rw [hm]; exact hin)
  · simp only [List.mem_singleton] at hm
    exact h.rest.arr.ne_ hX (by decide) hm
  · by_cases e : i = j
    · subst e
      rw [frAt_set_same hil]
      refine ⟨hF.blk.only ht fun hm => ?_, by rw [List.length_set]; exact hF.len, (fun e => by rw [hx] at e; cases e), fun bb hb => ?_⟩
      · simp only [List.mem_singleton] at hm
        exact hF.blk.ne_ hX (by decide) hm
      · rw [hx] at hb
        injection hb with hb
        subst hb
        have := hX.set at_ (.int .u8 (v.toNat : Int))
        show Blk _ x 5 (byteCells ((frAt fs i).data.set at_ v))
        rw [byteCells_set]
        exact this
    · rw [frAt_set_ne e]
      refine (h.rest.fr j hj).only ht (fun hm => ?_) (fun bb hb hm => ?_)
      · simp only [List.mem_singleton] at hm
        exact (h.rest.fr j hj).blk.ne_ hX (by decide) hm
      · simp only [List.mem_singleton] at hm
        subst hm
        exact e (h.rest.nb i j _ hi hj hx hb)
  · simp only [List.mem_singleton] at hm
    exact h.rest.map.ne_blk hX hm

def memV (B : PB) (i : Nat) : Value := match B.bo i with
  | some x => .slice (some ⟨x, 0, none⟩) 152064 152064
  | none => .slice none 0 0
set_option maxRecDepth 100000 in
set_option maxHeartbeats 1000000 in
theorem pl_memory (h : PlAt w base b N T quota B iv il fs) (n o : Int) :
    Calls Try.prog 49 #[.pointer (some ⟨b, 0, none⟩), .int .i64 n, .int .i64 o] w fun e w' => ∃ v B', e = .returned (.tuple #[v, .int .i64 (whyF fs n o)]) ∧ PlAt w' base b N T quota B' iv il fs ∧ B.more B' N w.heap.size ∧ OnlyIn B.fbs w w' ∧
      ((whyF fs n o ≠ 0 ∧ v = .slice none 0 0) ∨ (whyF fs n o = 0 ∧ ∃ x, B'.bo n.toNat = some x ∧ v = .slice (some ⟨x, 0, none⟩) 152064 152064)) := by
  have hof := pl_of h n o
  obtain ⟨r, hr⟩ : ∃ r, whyF fs n o = r := ⟨_, rfl⟩
  rw [hr] at hof ⊢
  have HH := Lib.hid h
  by_cases h0 : r = 0
  · subst h0
    obtain ⟨i, rfl, hi, ho, hne⟩ := whyF_ok hr
    unfold ptrF at hof
    rw [if_pos rfl] at hof
    simp only [Int.toNat_natCast] at hof ⊢
    have hiN : i < N := by rw [← h.ls]; exact hi
    have hm := mem_any (h.rest.fr i hiN)
    have HN := Lib.hid hiN
    clear h hr hi hiN ho
    go_enter Try.func49, Try.ntmps49
    go_wp2_with (go_at_call 53; refine hof.mono ?_; rintro e w' ⟨rfl, rfl⟩)
    refine hm.mono ?_
    rintro e w2 ⟨x, rfl, hF, ht, hx⟩
    have HX := Lib.hid (And.intro hF (And.intro ht hx))
    clear hm hof hF ht hx
    go_wp2_with fail
    go_ret2
    obtain ⟨hF, ht, hx⟩ := HX.out
    have hP := HH.out.memo HN.out hx ht hF
    refine ⟨_, B.mem i x, rfl, hP.1, hP.2, ht.mono fun k _ hk => ?_, .inr ⟨?_, x, B.mem_bo x (by rw [HH.out.rest.lb]; exact HN.out), rfl⟩⟩
    · simp only [List.mem_singleton] at hk
      rw [hk]
      exact HH.out.fb_mem HN.out
    · trivial
  · unfold ptrF at hof
    rw [if_neg h0] at hof
    have d : (r != 0) = true := by simpa using h0
    clear h hr
    go_enter Try.func49, Try.ntmps49
    go_wp2_with (go_at_call 53; refine hof.mono ?_; rintro e w' ⟨rfl, rfl⟩)
    go_ret2
    exact ⟨_, B, rfl, HH.out, B.more_refl _ _, OnlyIn.refl _ _, .inl ⟨h0, rfl⟩⟩
end
set_option maxRecDepth 100000 in
theorem PClone_any (w : World) {base : Nat} (v : Value) (bs : List UInt8) (hs : Rd w 1 v bs.length (byteCells bs)) (hl : bs.length ≤ 1000000000) :
    Calls Try.prog 56 #[v] w fun e w' => ∃ u, e = .returned u ∧ Sl w' w.heap.size 5 1 u bs.length (byteCells bs) ∧ OnlyIn [] w w' := by
  obtain ⟨i0, hi0, hz0, hz1, hz2⟩ := info_parts Try.infoB
  have hs' := hs
  obtain ⟨-, A, c, rfl, hc, hA⟩ := hs'
  clear hA
  by_cases hn : A = none
  · subst hn
    have hb0 : bs = [] := by
      obtain ⟨_, A', c', h2, h3, h4⟩ := hs
      rcases Nat.eq_zero_or_pos bs.length with h | h
      · exact List.eq_nil_of_length_eq_zero h
      · obtain ⟨g, off, e, _⟩ := h4 h
        injection h2 with h2
        rw [← h2] at e
        cases e
    subst hb0
    have hnil := fun w => Lib.run_eql_slice_nil (P := Try.prog) w 54 5 none 0 c 0 0 Try.underlying54
    go_enter Try.func56, Try.ntmps56
    go_wp2_with fail
    go_ret
    exact ⟨_, rfl, Sl.nil _ _ _ _, OnlyIn.refl _ _⟩
  · obtain ⟨a0, rfl⟩ : ∃ a0, A = some a0 := by cases A; exact absurd rfl hn; exact ⟨_, rfl⟩
    have hnil := fun w => Lib.run_eql_slice_nil (P := Try.prog) w 54 5 (some a0) bs.length c 0 0 Try.underlying54
    go_enter Try.func56, Try.ntmps56
    go_wp2_with (at_builtin; refine wpList_append_sl rfl _ _ 54 rfl w.heap.size 5 i0 _ 1 1 Try.underlying54 hi0 hz0 hz1 hz2 rfl (by decide) _ 0 [] rfl (Sl.lit w [] 5 0 rfl (by decide) (Nat.le_refl _)) _ bs.length (byteCells bs) rfl (hs.cells fun p u hp => ((OnlyIn.refl [] w).alloc _).cell hp (by simp)) (byteCells_one bs) (by simp only [maxLen]; omega) (by omega) (by simp) ?_; intro v1 w1 hs1 hg1 hat1; rw [Nat.zero_add, List.nil_append] at hs1)
    go_ret
    exact ⟨_, rfl, hs1, ((OnlyIn.refl [] w).alloc _).grown hg1 (fun k hk => .inr (by cases hk; exact Nat.le_refl _))⟩
section
variable {w w1 w' : World} {base b N T : Nat} {quota : Int} {B : PB} {iv iv1 : Value} {il : List Nat} {fs fs1 : List Fr}
def lookE (fs : List Fr) (n k : Int) : Int := if 0 ≤ n ∧ n < fs.length ∧ 0 ≤ k ∧ k ≤ 152064 then 0 else 3
def lookD (fs : List Fr) (n k : Int) : List UInt8 := if lookE fs n k = 0 then (frAt fs n.toNat).data.take k.toNat else []
set_option maxRecDepth 100000 in
set_option maxHeartbeats 2000000 in
theorem pl_lookat (h : PlAt w base b N T quota B iv il fs) (n k : Int) :
    Calls Try.prog 40 #[.pointer (some ⟨b, 0, none⟩), .int .i64 n, .int .i64 k] w fun e w' => ∃ v B', e = .returned (.tuple #[v, .int .i64 (lookE fs n k)]) ∧ PlAt w' base b N T quota B' iv il fs ∧ B.more B' N w.heap.size ∧ OnlyIn B.fbs w w' ∧
      Sl w' w.heap.size 5 1 v (lookD fs n k).length (byteCells (lookD fs n k)) ∧ (∀ g i, i < N → v.ownBlock = some g → B'.bo i ≠ some g) := by
  have hno := pl_none h
  have c0 := h.blk.cell (i := 0) rfl
  have hls := h.ls
  have HH := Lib.hid h
  obtain ⟨r, hr⟩ : ∃ r, lookE fs n k = r := ⟨_, rfl⟩
  by_cases hin : 0 ≤ n ∧ n < fs.length ∧ 0 ≤ k ∧ k ≤ 152064
  case neg =>
    have hr3 : lookE fs n k = 3 := if_neg hin
    have hd : lookD fs n k = [] := if_neg (by rw [hr3]; decide)
    rw [hr3, hd]
    have hfin : ∀ W, OnlyIn [] w W → PlAt W base b N T quota B iv il fs ∧ B.more B N w.heap.size ∧ OnlyIn B.fbs w W ∧ Sl W w.heap.size 5 1 (.slice none 0 0) ([] : List UInt8).length (byteCells []) ∧ (∀ g i, i < N → (Value.slice none 0 0).ownBlock = some g → B.bo i ≠ some g) :=
      fun W ht => ⟨HH.out.only0 ht, B.more_refl _ _, ht.mono (by simp), Sl.nil _ _ _ _, fun g i _ e => by cases e⟩
    have HF := Lib.hid hfin
    clear h hr hr3 hd hfin
    by_cases h1 : n < 0
    · have d1 : decide (n < 0) = true := decide_eq_true h1
      go_enter Try.func40, Try.ntmps40
      go_wp2_with (go_at_call 55; refine hno.mono ?_; rintro e w' ⟨rfl, rfl⟩)
      go_ret2
      exact ⟨_, B, rfl, HF.out _ (by (repeat (first | (with_reducible assumption) | (with_reducible exact OnlyIn.refl _ _) | (with_reducible refine OnlyIn.setCell ?_ (by first | simp | (simp; omega)) _) | (with_reducible refine OnlyIn.drewN ?_ _) | (with_reducible refine OnlyIn.drew ?_) | (with_reducible refine OnlyIn.alloc ?_ _))))⟩
    have d1 : decide (n < 0) = false := decide_eq_false h1
    by_cases h2 : (N : Int) ≤ n
    · have d2 : decide ((N : Int) ≤ n) = true := decide_eq_true h2
      go_enter Try.func40, Try.ntmps40
      go_wp2_with (go_at_call 55; refine hno.mono ?_; rintro e w' ⟨rfl, rfl⟩)
      go_ret2
      exact ⟨_, B, rfl, HF.out _ (by (repeat (first | (with_reducible assumption) | (with_reducible exact OnlyIn.refl _ _) | (with_reducible refine OnlyIn.setCell ?_ (by first | simp | (simp; omega)) _) | (with_reducible refine OnlyIn.drewN ?_ _) | (with_reducible refine OnlyIn.drew ?_) | (with_reducible refine OnlyIn.alloc ?_ _))))⟩
    have d2 : decide ((N : Int) ≤ n) = false := decide_eq_false h2
    by_cases h3 : k < 0
    · have d3 : decide (k < 0) = true := decide_eq_true h3
      go_enter Try.func40, Try.ntmps40
      go_wp2_with (go_at_call 55; refine hno.mono ?_; rintro e w' ⟨rfl, rfl⟩)
      go_ret2
      exact ⟨_, B, rfl, HF.out _ (by (repeat (first | (with_reducible assumption) | (with_reducible exact OnlyIn.refl _ _) | (with_reducible refine OnlyIn.setCell ?_ (by first | simp | (simp; omega)) _) | (with_reducible refine OnlyIn.drewN ?_ _) | (with_reducible refine OnlyIn.drew ?_) | (with_reducible refine OnlyIn.alloc ?_ _))))⟩
    have d3 : decide (k < 0) = false := decide_eq_false h3
    have d4 : decide (152064 < k) = true := decide_eq_true (by omega)
    go_enter Try.func40, Try.ntmps40
    go_wp2_with (go_at_call 55; refine hno.mono ?_; rintro e w' ⟨rfl, rfl⟩)
    go_ret2
    exact ⟨_, B, rfl, HF.out _ (by (repeat (first | (with_reducible assumption) | (with_reducible exact OnlyIn.refl _ _) | (with_reducible refine OnlyIn.setCell ?_ (by first | simp | (simp; omega)) _) | (with_reducible refine OnlyIn.drewN ?_ _) | (with_reducible refine OnlyIn.drew ?_) | (with_reducible refine OnlyIn.alloc ?_ _))))⟩
  obtain ⟨i, rfl⟩ := Int.eq_ofNat_of_zero_le (by omega : 0 ≤ n)
  obtain ⟨m, rfl⟩ := Int.eq_ofNat_of_zero_le (by omega : 0 ≤ k)
  have hr3 : lookE fs i m = 0 := if_pos hin
  have hd : lookD fs i m = (frAt fs i).data.take m := if_pos hr3
  rw [hr3, hd]
  have hiN : i < N := by omega
  have hmk : m ≤ 152064 := by omega
  have d1 : decide ((i : Int) < 0) = false := decide_eq_false (by omega)
  have d2 : decide ((N : Int) ≤ (i : Int)) = false := decide_eq_false (by omega)
  have d3 : decide ((m : Int) < 0) = false := decide_eq_false (by omega)
  have d4 : decide (152064 < (m : Int)) = false := decide_eq_false (by omega)
  have d2' : decide (N ≤ i) = false := decide_eq_false (by omega)
  have d4' : decide (152064 < m) = false := decide_eq_false (by omega)
  have c1 := h.rest.ptr hiN
  have hm := mem_any (h.rest.fr i hiN)
  have hlen := (h.rest.fr i hiN).len
  clear h hr hr3 hd
  go_enter Try.func40, Try.ntmps40
  go_wp2_with (go_at_call 55; refine hno.mono ?_; rintro e w' ⟨rfl, rfl⟩)
  refine hm.mono ?_
  rintro e w2 ⟨x, rfl, hF, ht, hx⟩
  have hP := HH.out.memo hiN hx ht hF
  have hrd : Rd w2 1 (.slice (some ⟨x, 0, none⟩) m 152064) ((frAt fs i).data.take m).length (byteCells ((frAt fs i).data.take m)) := by
    have hl : ((frAt fs i).data.take m).length = m := by rw [List.length_take, hlen]; omega
    refine ⟨by rw [byteCells_length, Nat.mul_one], some ⟨x, 0, none⟩, 152064, by rw [hl], by omega, fun _ => ⟨x, 0, rfl, fun j u hu => ?_⟩⟩
    refine (hF.yes x rfl).cell ?_
    rw [Nat.zero_add]
    unfold byteCells at hu ⊢
    rw [List.map_take, List.getElem?_take] at hu
    split at hu
    · exact hu
    · cases hu
  have hcl := PClone_any (base := 0) w2 _ _ hrd (by rw [List.length_take]; omega)
  have HX := Lib.hid (And.intro hP ht)
  have hxN := HH.out.rest
  have hsz := ht.size
  clear hm hF hx hP hrd hxN ht
  go_wp2_with fail
  refine hcl.mono ?_
  rintro e w3 ⟨u, rfl, hu, ht3⟩
  have HU := Lib.hid (And.intro hu ht3)
  clear hcl hu ht3
  go_wp2_with fail
  go_ret2
  obtain ⟨hP, ht⟩ := HX.out
  obtain ⟨hu, ht3⟩ := HU.out
  refine ⟨u, B.mem i x, rfl, hP.1.only0 ht3, hP.2, (ht.mono fun k _ hk => ?_).then ht3 (by simp), ⟨hu.1, hu.2.imp id fun ⟨g, off, cap, cur, h1, h2, h3⟩ => ⟨g, off, cap, cur, h1, Nat.le_trans hsz h2, h3⟩⟩, fun g j hj hg hb => ?_⟩
  · simp only [List.mem_singleton] at hk
    rw [hk]
    exact HH.out.fb_mem hiN
  · have h1 := (hu.own_lt g hg).1
    have h2 := hP.1.rest.lt (.inr (.inr (.inr ⟨j, hj, hb⟩)))
    omega
end
end Go.Proofs.Ytmbnmhcfafgnaaa
