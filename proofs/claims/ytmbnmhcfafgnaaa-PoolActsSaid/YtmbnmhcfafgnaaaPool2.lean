/-
  Package pool: more, of, Acquire, frees.
-/
import Derived.Test.YtmbnmhcfafgnaaaPool
namespace Go.Proofs.Ytmbnmhcfafgnaaa
open Go.RowKit Go.Mine

set_option maxRecDepth 100000 in
set_option maxHeartbeats 2000000 in
theorem more_any (w : World) {b mb T : Nat} {f : Int → Option Int} (hc : w.cell? ⟨b, 2, none⟩ = some (.map (some mb))) (hm : MapI Try.prog 3 w mb T f) (hT : T < 100000) (o : Int) (ho : -9223372036854775808 ≤ o ∧ o ≤ 9223372036854775807) (n z : Int) (hz : (f o).getD 0 = z) (hb : -1000000 ≤ z + n ∧ z + n ≤ 1000000) (hbl : b < w.heap.size) :
    Calls Try.prog 59 #[.pointer (some ⟨b, 0, none⟩), .int .i64 o, .int .i64 n] w fun e w' => (∃ v, e = .returned v) ∧ MapI Try.prog 3 w' mb (T + 1) (if z + n = 0 then untell f o else tellI f o (z + n)) ∧ OnlyIn [mb] w w' := by
  have hlk := hm.at (t := 70) (e := 88) Try.underlying3 Try.underlying70 (hold_zero w) o ho
  rw [hz] at hlk
  have hw : IntKind.i64.wrap (z + n) = z + n := by rw [IntKind.wrap_i64]; omega
  have hm2 := hm.alloc (.cells #[.int .i64 (z + n)] 88)
  have ht2 : OnlyIn [mb] w (w.alloc (.cells #[.int .i64 (z + n)] 88)) := (OnlyIn.refl _ _).alloc _
  have hbw : b ≠ w.heap.size := by omega
  by_cases h0 : z + n = 0
  · rw [if_pos h0]
    have hd : (z + n == 0) = true := by simpa using h0
    rw [h0] at hm2 ht2
    have HT := Lib.hid ht2
    have HM := Lib.hid hm2
    clear hm hm2 ht2 hz
    go_enter Try.func59, Try.ntmps59
    go_wp2_with (at_delete; refine wpList_delete_i (K := 3) (e := 88) rfl _ _ 70 rfl Try.underlying3 Try.underlying70 mb T f HM.out rfl o ho rfl ?_; intro w3 hM3 hg3)
    refine bodyPost_ret (results_none rfl _ _ _) rfl ?_
    exact ⟨⟨_, rfl⟩, hM3.mono (by omega), HT.out.grown hg3 (fun k hk => .inl (by injection hk with hk; simp [hk]))⟩
  · rw [if_neg h0]
    have hd : (z + n == 0) = false := by simpa using h0
    obtain ⟨w3, hrun, hM3, hg3⟩ := hm2.drew.store (t := 70) Try.underlying3 Try.underlying70 (by omega) o ho (z + n)
    have hnb := Blk.new w 88 [.int .i64 (z + n)]
    have x0 : (w.alloc (.cells #[.int .i64 (z + n)] 88)).cell? ⟨w.heap.size, 0, none⟩ = _ := hnb.cell (i := 0) rfl
    have HT := Lib.hid (And.intro ht2 (And.intro hM3 hg3))
    clear hm hm2 ht2 hz hM3 hg3 hnb
    go_enter Try.func59, Try.ntmps59
    go_wp2_with fail
    go_region_with (fail)
    all_goals
      go_end0
      exact ⟨⟨_, rfl⟩, HT.out.2.1, (HT.out.1.drew).grown HT.out.2.2 (fun k hk => .inl (by injection hk with hk; simp [hk]))⟩

section
variable {w w' : World} {base b N T : Nat} {quota : Int} {B : PB} {iv : Value} {il : List Nat} {fs : List Fr} {hf : Int → Option Int}
theorem PlR.setFr (h : PlR w base N T B fs hf) {i : Nat} (hi : i < N) (ht : OnlyIn [B.fb i] w w') {f : Fr} (hf' : FrAt w' (B.fb i) (B.bo i) f) : PlR w' base N T B (fs.set i f) hf where
  arr := h.arr.only ht fun hm => by
    simp only [List.mem_singleton] at hm
    exact h.arr.ne_ (h.fr i hi).blk (by decide) hm
  lf := h.lf
  lb := h.lb
  ls := by rw [List.length_set]; exact h.ls
  fr := fun j hj => by
    by_cases e : i = j
    · subst e
      rw [frAt_set_same (by rw [h.ls]; exact hi)]
      exact hf'
    · rw [frAt_set_ne e]
      refine (h.fr j hj).only ht (fun hm => ?_) (fun bb hb hm => ?_)
      · simp only [List.mem_singleton] at hm
        exact e (h.nf i j hi hj hm.symm)
      · simp only [List.mem_singleton] at hm
        exact ((h.fr j hj).yes bb hb).ne_ (h.fr i hi).blk (by decide) hm
  nf := h.nf
  nb := h.nb
  map := h.map.only ht fun hm => by
    simp only [List.mem_singleton] at hm
    exact h.map.ne_blk (h.fr i hi).blk hm
  b1 := h.b1
  b2 := h.b2
  b3 := h.b3
theorem PlR.setMap (h : PlR w base N T B fs hf) (ht : OnlyIn [B.mb] w w') {T' : Nat} {hf' : Int → Option Int} (hm : MapI Try.prog 3 w' B.mb T' hf') : PlR w' base N T' B fs hf' where
  arr := h.arr.only ht fun hk => by
    simp only [List.mem_singleton] at hk
    exact h.map.ne_blk h.arr hk.symm
  lf := h.lf
  lb := h.lb
  ls := h.ls
  fr := fun j hj => (h.fr j hj).only ht (fun hk => by
    simp only [List.mem_singleton] at hk
    exact h.map.ne_blk (h.fr j hj).blk hk.symm) (fun bb hb hk => by
    simp only [List.mem_singleton] at hk
    exact h.map.ne_blk ((h.fr j hj).yes bb hb) hk.symm)
  nf := h.nf
  nb := h.nb
  map := hm
  b1 := h.b1
  b2 := h.b2
  b3 := h.b3
theorem PlR.ext (h : PlR w base N T B fs hf) {hf' : Int → Option Int} (he : ∀ x, hf' x = hf x) : PlR w base N T B fs hf' := { h with map := h.map.ext fun x _ => he x }

def ptrF (B : PB) (r n : Int) : Value := if r = 0 then .pointer (some ⟨B.fb n.toNat, 0, none⟩) else .pointer none
theorem whyF_lo {fs : List Fr} {n o : Int} (h : ¬ (0 ≤ n ∧ n < fs.length)) : whyF fs n o = 18 := by
  unfold whyF
  exact if_neg fun hh => h ⟨hh.1, hh.2.1⟩
theorem whyF_at {fs : List Fr} {i : Nat} {o : Int} (h : i < fs.length) : whyF fs (i : Int) o = if (frAt fs i).owner = 0 then 18 else if (frAt fs i).owner = o then 0 else 19 := by
  unfold whyF
  rw [Int.toNat_natCast]
  by_cases h0 : (frAt fs i).owner = 0
  · rw [if_neg (fun hh => hh.2.2 h0), if_pos h0]
  · rw [if_pos ⟨by omega, by omega, h0⟩, if_neg h0]
set_option maxRecDepth 100000 in
set_option maxHeartbeats 2000000 in
theorem pl_of (h : PlAt w base b N T quota B iv il fs) (n o : Int) : Calls Try.prog 53 #[.pointer (some ⟨b, 0, none⟩), .int .i64 n, .int .i64 o] w fun e w' => e = .returned (.tuple #[ptrF B (whyF fs n o) n, .int .i64 (whyF fs n o)]) ∧ w = w' := by
  have hno := pl_none h
  have c0 := h.blk.cell (i := 0) rfl
  have hls := h.ls
  by_cases h1 : n < 0
  · rw [whyF_lo (fun hh => by omega)]
    have d1 : decide (n < 0) = true := decide_eq_true h1
    clear h
    go_enter Try.func53, Try.ntmps53
    go_wp2_with (go_at_call 55; refine hno.mono ?_; rintro e w' ⟨rfl, rfl⟩)
    go_ret2
    exact ⟨rfl, rfl⟩
  have d1 : decide (n < 0) = false := decide_eq_false h1
  by_cases h2 : (N : Int) ≤ n
  · rw [whyF_lo (fun hh => by omega)]
    have d2 : decide ((N : Int) ≤ n) = true := decide_eq_true h2
    clear h
    go_enter Try.func53, Try.ntmps53
    go_wp2_with (go_at_call 55; refine hno.mono ?_; rintro e w' ⟨rfl, rfl⟩)
    go_ret2
    exact ⟨rfl, rfl⟩
  have d2 : decide ((N : Int) ≤ n) = false := decide_eq_false h2
  obtain ⟨i, rfl⟩ := Int.eq_ofNat_of_zero_le (by omega : 0 ≤ n)
  have hi : i < N := by omega
  have c1 := h.rest.ptr hi
  have c2 := (h.rest.fr i hi).blk.cell (i := 0) rfl
  rw [whyF_at (by omega)]
  generalize (frAt fs i).owner = z at c2 ⊢
  clear h
  by_cases h3 : z = 0
  · subst h3
    rw [if_pos rfl]
    go_enter Try.func53, Try.ntmps53
    go_wp2_with (go_at_call 55; refine hno.mono ?_; rintro e w' ⟨rfl, rfl⟩)
    go_ret2
    exact ⟨rfl, rfl⟩
  have d3 : (z == 0) = false := by simpa using h3
  rw [if_neg h3]
  by_cases h4 : z = o
  · subst h4
    rw [if_pos rfl]
    have d4 : (z != z) = false := by simp
    unfold ptrF
    rw [if_pos rfl, Int.toNat_natCast]
    go_enter Try.func53, Try.ntmps53
    go_wp2_with (go_at_call 55; refine hno.mono ?_; rintro e w' ⟨rfl, rfl⟩)
    go_ret2
    exact ⟨rfl, rfl⟩
  · rw [if_neg h4]
    have d4 : (z != o) = true := by simpa using h4
    go_enter Try.func53, Try.ntmps53
    go_wp2_with (go_at_call 55; refine hno.mono ?_; rintro e w' ⟨rfl, rfl⟩)
    go_ret2
    exact ⟨rfl, rfl⟩

/-- An operation of a pool: what it left. -/
def PlOut (w w' : World) (base b N T : Nat) (quota : Int) (B : PB) (iv : Value) (fs : List Fr) : Prop :=
  ∃ iv' il', PlAt w' base b N T quota B iv' il' fs ∧ OnlyIn (b :: B.mb :: (iv.ownBlock.toList ++ B.fbs)) w w' ∧ (∀ g, iv'.ownBlock = some g → iv.ownBlock = some g ∨ w.heap.size ≤ g)
theorem PlAt.stay (h : PlAt w base b N T quota B iv il fs) : PlOut w w base b N T quota B iv fs := ⟨iv, il, h, OnlyIn.refl _ _, fun g hg => .inl hg⟩
theorem PlAt.more (h : PlAt w base b N T quota B iv il fs) {T' : Nat} (hT : T ≤ T') : PlAt w base b N T' quota B iv il fs := { h with rest := { h.rest with map := h.rest.map.mono hT } }
theorem PlAt.fb_mem (h : PlAt w base b N T quota B iv il fs) {i : Nat} (hi : i < N) : B.fb i ∈ B.fbs := by
  have := h.rest.lf
  unfold PB.fb
  rw [List.getD_eq_getElem?_getD, List.getElem?_eq_getElem (by omega)]
  exact List.getElem_mem _
/-- A frame's handles turn. -/
theorem PlAt.hands (h : PlAt w base b N T quota B iv il fs) {i : Nat} (hi : i < N) (k : Int) :
    PlAt (w.setCell ⟨B.fb i, 1, none⟩ (.int .i64 k)) base b N T quota B iv il (fs.set i ⟨(frAt fs i).owner, k, (frAt fs i).data⟩) := by
  have hF := h.rest.fr i hi
  have ht : OnlyIn [B.fb i] w (w.setCell ⟨B.fb i, 1, none⟩ (.int .i64 k)) := (OnlyIn.refl _ _).setCell (.inl (by simp)) _
  have hil : i < fs.length := by rw [h.ls]; exact hi
  have hfree : freeI (fs.set i ⟨(frAt fs i).owner, k, (frAt fs i).data⟩) = freeI fs := by
    unfold freeI
    rw [List.length_set]
    refine List.filter_congr fun j hj => ?_
    by_cases e : i = j
    · subst e; rw [frAt_set_same hil]
    · rw [frAt_set_ne e]
  have hheld : ∀ x, heldF (fs.set i ⟨(frAt fs i).owner, k, (frAt fs i).data⟩) x = heldF fs x := fun x => by
    have := cntO_set fs hil ⟨(frAt fs i).owner, k, (frAt fs i).data⟩ x
    simp only at this
    unfold heldF
    rw [show cntO (fs.set i ⟨(frAt fs i).owner, k, (frAt fs i).data⟩) x = cntO fs x by omega]
  refine ⟨h.blk.only ht (fun hm => ?_), h.sl.only ht (fun g hg hm => ?_), by rw [hfree]; exact h.pm, h.hp, (h.rest.setFr hi ht (f := ⟨(frAt fs i).owner, k, (frAt fs i).data⟩) ⟨hF.blk.set 1 (.int .i64 k), hF.len, hF.no, fun bb hb => ?_⟩).ext hheld, h.bb, by simpa using h.bw, h.q1, h.n64⟩
  · simp only [List.mem_singleton] at hm
    exact h.blk.ne_ hF.blk (by decide) hm
  · simp only [List.mem_singleton] at hm
    exact h.sl.ne_blk hF.blk (by decide) (by rw [hg, hm])
  · exact (hF.yes bb hb).far (p := ⟨B.fb i, 1, none⟩) ((hF.yes bb hb).ne_ hF.blk (by decide)) _

def retF (fs : List Fr) (n o : Int) : List Fr := if whyF fs n o = 0 then fs.set n.toNat ⟨(frAt fs n.toNat).owner, (frAt fs n.toNat).handles + 1, (frAt fs n.toNat).data⟩ else fs
set_option maxRecDepth 100000 in
theorem pl_retain (h : PlAt w base b N T quota B iv il fs) (n o : Int) (hb : ∀ f ∈ fs, 0 ≤ f.handles ∧ f.handles ≤ 1000000) :
    Calls Try.prog 44 #[.pointer (some ⟨b, 0, none⟩), .int .i64 n, .int .i64 o] w fun e w' => e = .returned (.int .i64 (whyF fs n o)) ∧ PlOut w w' base b N T quota B iv (retF fs n o) := by
  have hof := pl_of h n o
  unfold retF
  obtain ⟨r, hr⟩ : ∃ r, whyF fs n o = r := ⟨_, rfl⟩
  rw [hr] at hof ⊢
  by_cases h0 : r = 0
  · subst h0
    rw [if_pos rfl]
    obtain ⟨i, rfl, hi, -, -⟩ := whyF_ok hr
    unfold ptrF at hof
    rw [if_pos rfl] at hof
    simp only [Int.toNat_natCast] at hof ⊢
    have hiN : i < N := by rw [← h.ls]; exact hi
    have c1 := (h.rest.fr i hiN).blk.cell (i := 1) rfl
    have f1 := (h.rest.fr i hiN).blk.free 1
    have hbd := hb (frAt fs i) (by rw [frAt_eq hi]; exact List.getElem_mem hi)
    have hout := h.hands hiN ((frAt fs i).handles + 1)
    have hmem := h.fb_mem hiN
    have HO := Lib.hid (And.intro hout hmem)
    obtain ⟨k, hk⟩ : ∃ k, (frAt fs i).handles = k := ⟨_, rfl⟩
    rw [hk] at c1 hbd HO ⊢
    have hw : IntKind.i64.wrap (k + 1) = k + 1 := by rw [IntKind.wrap_i64]; omega
    clear h hb hr hi hout hmem hk
    go_enter Try.func44, Try.ntmps44
    go_wp2_with (go_at_call 53; refine hof.mono ?_; rintro e w' ⟨rfl, rfl⟩)
    go_ret
    exact ⟨rfl, iv, il, HO.out.1, (OnlyIn.refl _ _).setCell (.inl (by simp [HO.out.2])) _, fun g hg => .inl hg⟩
  · rw [if_neg h0]
    unfold ptrF at hof
    rw [if_neg h0] at hof
    have d : (r == 0) = false := by simpa using h0
    have HO := Lib.hid h.stay
    clear h hb hr
    go_enter Try.func44, Try.ntmps44
    go_wp2_with (go_at_call 53; refine hof.mono ?_; rintro e w' ⟨rfl, rfl⟩)
    go_ret
    exact ⟨rfl, HO.out⟩
end
end Go.Proofs.Ytmbnmhcfafgnaaa
