/-
  Law 23's reference: made, Memory, Look.
-/
import Derived.Test.YtmbnmhcfafgnaaaRefPool3
import Derived.Test.YtmbnmhcfafgnaaaPool6
namespace Go.Proofs.Ytmbnmhcfafgnaaa
open Go.RowKit Go.Mine
section
variable {w w1 w' : World} {base b lb N : Nat} {q : Int} {R R1 : List RRow} {S : List Nat} {H : Int} {fs fs' : List Fr}
theorem flat_set_eq {i x : Nat} {f : Fr} {bo : Option Nat} (h : R[i]? = some (f, bo)) : rFs (R.set i (f, some x)) = rFs R := by
  rw [rFs_set]
  have hi := (List.getElem?_eq_some_iff.1 h).1
  have : frAt (rFs R) i = f := rFs_at h
  rw [← this]
  exact frAt_self (by rw [rFs_len]; exact hi)
/-- A frame's bytes are made. -/
theorem RfAt.mem (h : RfAt w base b lb N q R) {i : Nat} {f : Fr} (hr : R[i]? = some (f, none)) {x : Nat} (hx : w.heap.size ≤ x) (ht : OnlyIn [lb] w w') (ha : Blk w' lb 99 ((R.flatMap rcells).set (i * 3 + 2) (.slice (some ⟨x, 0, none⟩) 152064 152064))) (hb : Blk w' x 5 (byteCells f.data)) :
    RfAt w' base b lb N q (R.set i (f, some x)) ∧ rFs (R.set i (f, some x)) = rFs R ∧ ∀ k ∈ rOwn b lb (R.set i (f, some x)), k ∈ rOwn b lb R ∨ w.heap.size ≤ k := by
  have hi := (List.getElem?_eq_some_iff.1 hr).1
  rw [rset hr 2 (by omega) (.slice (some ⟨x, 0, none⟩) 152064 152064) (y := (f, some x)) rfl] at ha
  have hlt := h.lt
  have key : ∀ (j : Nat) (g : Fr) (bo' : Option Nat), (R.set i (f, some x))[j]? = some (g, bo') → (j = i ∧ g = f ∧ bo' = some x) ∨ (j ≠ i ∧ R[j]? = some (g, bo')) := fun j g bo' hj => by
    by_cases e : i = j
    · subst e
      rw [List.getElem?_set_self hi] at hj
      injection hj with hj
      injection hj with h1 h2
      exact .inl ⟨rfl, h1.symm, h2.symm⟩
    · rw [List.getElem?_set_ne e] at hj
      exact .inr ⟨fun e2 => e e2.symm, hj⟩
  have hbase : base ≤ w.heap.size := Nat.le_of_lt (Nat.lt_of_le_of_lt (hlt b (by unfold rOwn; simp)).1 (hlt b (by unfold rOwn; simp)).2)
  refine ⟨⟨h.blk.only ht fun hm => ?_, ha, by rw [List.length_set]; exact h.len, fun j g bo' hj => ?_, fun j g y hj => ?_, fun j1 j2 g1 g2 y h1 h2 => ?_, h.bb, h.n64⟩, flat_set_eq hr, fun k hk => ?_⟩
  · simp only [List.mem_singleton] at hm
    exact h.blk.ne_ h.arr (by decide) hm
  · rcases key j g bo' hj with ⟨rfl, rfl, rfl⟩ | ⟨-, hj⟩
    · exact ⟨(h.dl _ _ _ hr).1, fun e => by cases e⟩
    · exact h.dl j g bo' hj
  · rcases key j g _ hj with ⟨rfl, rfl, e⟩ | ⟨-, hj⟩
    · injection e with e
      subst e
      exact ⟨hb, Nat.le_trans hbase hx⟩
    · refine ⟨(h.yes j g y hj).1.only ht fun hm => ?_, (h.yes j g y hj).2⟩
      simp only [List.mem_singleton] at hm
      exact (h.yes j g y hj).1.ne_ h.arr (by decide) hm
  · rcases key _ _ _ h1 with ⟨e1, -, e2⟩ | ⟨e1, e2⟩ <;> rcases key _ _ _ h2 with ⟨e3, -, e4⟩ | ⟨e3, e4⟩
    · rw [e1, e3]
    · injection e2 with e2
      have := (hlt y (mem_rown e4)).2
      omega
    · injection e4 with e4
      have := (hlt y (mem_rown e2)).2
      omega
    · exact h.nb _ _ _ _ _ e2 e4
  · unfold rOwn at hk ⊢
    simp only [List.mem_cons, List.mem_filterMap] at hk ⊢
    rcases hk with rfl | rfl | ⟨⟨g, bo'⟩, hm, hb'⟩
    · exact .inl (.inl rfl)
    · exact .inl (.inr (.inl rfl))
    · simp only at hb'
      subst hb'
      obtain ⟨j, hj⟩ := List.getElem?_of_mem hm
      rcases key _ _ _ hj with ⟨-, -, e⟩ | ⟨-, hj⟩
      · injection e with e
        subst e
        exact .inr hx
      · exact .inl (.inr (.inr ⟨_, List.mem_of_getElem? hj, rfl⟩))
/-- What made does. -/
def RfMem (w w' : World) (base b lb N : Nat) (q : Int) (R : List RRow) (i x : Nat) : Prop :=
  ∃ R', RfAt w' base b lb N q R' ∧ rFs R' = rFs R ∧ OnlyIn [lb] w w' ∧ (∀ k ∈ rOwn b lb R', k ∈ rOwn b lb R ∨ w.heap.size ≤ k) ∧ R'[i]? = some (frAt (rFs R) i, some x)
set_option maxRecDepth 100000 in
set_option maxHeartbeats 1000000 in
theorem ref_made (h : RfAt w base b lb N q R) {i : Nat} (hi : i < N) :
    Calls Try.prog 74 #[.pointer (some ⟨b, 0, none⟩), .int .i64 (i : Int)] w fun e w' => ∃ x, e = .returned (.slice (some ⟨x, 0, none⟩) 152064 152064) ∧ RfMem w w' base b lb N q R i x := by
  have c0 := h.blk.cell (i := 0) rfl
  have HH := Lib.hid h
  obtain ⟨bo, hr⟩ := h.row hi
  obtain ⟨-, -, d2⟩ := h.cell hr
  cases bo with
  | some x =>
    simp only [svB] at d2
    have HX : Hid (RfMem w w base b lb N q R i x) := Lib.hid ⟨R, h, rfl, OnlyIn.refl _ _, fun _ hk => .inl hk, hr⟩
    clear h hr
    go_enter Try.func74, Try.ntmps74
    go_wp2_with fail
    go_ret
    exact ⟨x, rfl, HX.out⟩
  | none =>
    simp only [svB] at d2
    have hd := (h.dl _ _ _ hr).2 rfl
    have hmk : ∀ W, (Instr.makeSlice 54 (.int .i64 152064) (.int .i64 152064)).run Try.prog W = .ok (.slice (some ⟨W.heap.size, 0, none⟩) 152064 152064) (W.alloc (.cells (byteCells (frAt (rFs R) i).data).toArray 5)) := fun W => by
      have := mk_u8 152064 (by omega) W
      rw [← hd] at this
      exact this
    have hlb := h.arr.lt
    have hb2 : b < w.heap.size := h.blk.lt
    have f2 := h.arr.free (i * 3 + 2)
    have HR := Lib.hid hr
    obtain ⟨D, hD⟩ : ∃ D, (frAt (rFs R) i).data = D := ⟨_, rfl⟩
    have HD := Lib.hid hD
    rw [hD] at hmk
    obtain ⟨Z, hZ⟩ : ∃ Z, (byteCells D).toArray = Z := ⟨_, rfl⟩
    have HZ := Lib.hid hZ
    rw [hZ] at hmk
    clear h hr hd hD hZ
    go_enter Try.func74, Try.ntmps74
    go_wp2_with fail
    go_region
    go_wp2_with fail
    go_ret
    have ht : OnlyIn [lb] w ((w.setCell ⟨lb, i * 3 + 2, none⟩ (.slice (some ⟨w.heap.size, 0, none⟩) 152064 152064)).alloc (.cells Z 5)).drew := (((OnlyIn.refl _ _).setCell (.inl (by simp)) _).alloc _).drew
    have ha := ((HH.out.arr.set (i * 3 + 2) (.slice (some ⟨w.heap.size, 0, none⟩) 152064 152064)).alloc (.cells Z 5)).drew
    have hb := (Blk.new (w.setCell ⟨lb, i * 3 + 2, none⟩ (.slice (some ⟨w.heap.size, 0, none⟩) 152064 152064)) 5 (byteCells D)).drew
    rw [HZ.out, ← HD.out] at hb
    obtain ⟨h1, h2, h3⟩ := HH.out.mem HR.out (Nat.le_refl _) ht ha (by simpa using hb)
    exact ⟨w.heap.size, rfl, _, h1, h2, ht, h3, List.getElem?_set_self (by rw [HH.out.len]; exact hi)⟩
set_option maxRecDepth 100000 in
theorem ref_memory (h : RfAt w base b lb N q R) (n o : Int) :
    Calls Try.prog 63 #[.pointer (some ⟨b, 0, none⟩), .int .i64 n, .int .i64 o] w fun e w' => ∃ v, e = .returned (.tuple #[v, .int .i64 (whyF (rFs R) n o)]) ∧
      ((whyF (rFs R) n o ≠ 0 ∧ v = .slice none 0 0 ∧ w = w') ∨ (whyF (rFs R) n o = 0 ∧ ∃ x, v = .slice (some ⟨x, 0, none⟩) 152064 152064 ∧ n.toNat < N ∧ RfMem w w' base b lb N q R n.toNat x)) := by
  have hre := ref_refuses h n o
  obtain ⟨r, hr⟩ : ∃ r, whyF (rFs R) n o = r := ⟨_, rfl⟩
  rw [hr] at hre ⊢
  by_cases h0 : r = 0
  · subst h0
    obtain ⟨i, rfl, hi, -, -⟩ := whyF_ok hr
    rw [h.fl] at hi
    have hm := ref_made h hi
    rw [Int.toNat_natCast]
    have HI := Lib.hid hi
    clear h hr hi
    go_enter Try.func63, Try.ntmps63
    go_wp2_with (go_at_call 73; refine hre.mono ?_; rintro e w' ⟨rfl, rfl⟩)
    refine hm.mono ?_
    rintro e w2 ⟨x, rfl, hx⟩
    have HX := Lib.hid hx
    clear hm hx hre
    go_wp2_with fail
    go_ret2
    exact ⟨_, rfl, .inr ⟨by first | rfl | trivial, x, rfl, HI.out, HX.out⟩⟩
  · have d : (r != 0) = true := by simpa using h0
    have H0 := Lib.hid h0
    clear h hr h0
    go_enter Try.func63, Try.ntmps63
    go_wp2_with (go_at_call 73; refine hre.mono ?_; rintro e w' ⟨rfl, rfl⟩)
    go_ret2
    exact ⟨_, rfl, .inl ⟨H0.out, rfl, rfl⟩⟩
set_option maxRecDepth 100000 in
set_option maxHeartbeats 2000000 in
theorem ref_look (h : RfAt w base b lb N q R) (n k : Int) :
    Calls Try.prog 65 #[.pointer (some ⟨b, 0, none⟩), .int .i64 n, .int .i64 k] w fun e w' => ∃ v, e = .returned (.tuple #[v, .int .i64 (lookE (rFs R) n k)]) ∧ Sl w' w.heap.size 5 1 v (lookD (rFs R) n k).length (byteCells (lookD (rFs R) n k)) ∧
      ∃ R', RfAt w' base b lb N q R' ∧ rFs R' = rFs R ∧ OnlyIn [lb] w w' ∧ (∀ k ∈ rOwn b lb R', k ∈ rOwn b lb R ∨ w.heap.size ≤ k) ∧ ∀ g, v.ownBlock = some g → g ∉ rOwn b lb R' := by
  have c0 := h.blk.cell (i := 0) rfl
  have hls := h.fl
  have HH := Lib.hid h
  by_cases hin : 0 ≤ n ∧ n < (rFs R).length ∧ 0 ≤ k ∧ k ≤ 152064
  case neg =>
    have hr3 : lookE (rFs R) n k = 3 := if_neg hin
    have hd : lookD (rFs R) n k = [] := if_neg (by rw [hr3]; decide)
    rw [hr3, hd]
    rw [hls] at hin
    clear h hr3 hd hls
    by_cases h1 : n < 0
    · have d1 : decide (n < 0) = true := decide_eq_true h1
      go_enter Try.func65, Try.ntmps65
      go_wp2_with fail
      go_ret2
      exact ⟨_, rfl, Sl.nil _ _ _ _, R, HH.out, rfl, OnlyIn.refl _ _, fun _ hk => .inl hk, fun g e => by cases e⟩
    have d1 : decide (n < 0) = false := decide_eq_false h1
    by_cases h2 : (N : Int) ≤ n
    · have d2 : decide ((N : Int) ≤ n) = true := decide_eq_true h2
      go_enter Try.func65, Try.ntmps65
      go_wp2_with fail
      go_ret2
      exact ⟨_, rfl, Sl.nil _ _ _ _, R, HH.out, rfl, OnlyIn.refl _ _, fun _ hk => .inl hk, fun g e => by cases e⟩
    have d2 : decide ((N : Int) ≤ n) = false := decide_eq_false h2
    by_cases h3 : k < 0
    · have d3 : decide (k < 0) = true := decide_eq_true h3
      go_enter Try.func65, Try.ntmps65
      go_wp2_with fail
      go_ret2
      exact ⟨_, rfl, Sl.nil _ _ _ _, R, HH.out, rfl, OnlyIn.refl _ _, fun _ hk => .inl hk, fun g e => by cases e⟩
    have d3 : decide (k < 0) = false := decide_eq_false h3
    have d4 : decide (152064 < k) = true := decide_eq_true (by omega)
    go_enter Try.func65, Try.ntmps65
    go_wp2_with fail
    go_ret2
    exact ⟨_, rfl, Sl.nil _ _ _ _, R, HH.out, rfl, OnlyIn.refl _ _, fun _ hk => .inl hk, fun g e => by cases e⟩
  obtain ⟨i, rfl⟩ := Int.eq_ofNat_of_zero_le (by omega : 0 ≤ n)
  obtain ⟨m, rfl⟩ := Int.eq_ofNat_of_zero_le (by omega : 0 ≤ k)
  have hr3 : lookE (rFs R) i m = 0 := if_pos hin
  have hd : lookD (rFs R) i m = (frAt (rFs R) i).data.take m := if_pos hr3
  rw [hr3, hd]
  have hiN : i < N := by omega
  have hmk : m ≤ 152064 := by omega
  have d1 : decide ((i : Int) < 0) = false := decide_eq_false (by omega)
  have d2 : decide ((N : Int) ≤ (i : Int)) = false := decide_eq_false (by omega)
  have d3 : decide ((m : Int) < 0) = false := decide_eq_false (by omega)
  have d4 : decide (152064 < (m : Int)) = false := decide_eq_false (by omega)
  have d2' : decide (N ≤ i) = false := decide_eq_false (by omega)
  have d4' : decide (152064 < m) = false := decide_eq_false (by omega)
  have hA : RfAt (w.alloc (.cells #[] 5)) base b lb N q R := h.only (S := []) ((OnlyIn.refl _ _).alloc _) (by simp)
  have hm := ref_made hA hiN
  have hlt := h.lt
  obtain ⟨i0, hi0, hz0, hz1, hz2⟩ := info_parts Try.infoB
  have HL := Lib.hid (And.intro hlt (h.row hiN))
  have HA := Lib.hid hA
  clear h hr3 hd hls hin hlt hA
  go_enter Try.func65, Try.ntmps65
  go_wp2_with fail
  refine hm.mono ?_
  rintro e w2 ⟨x, rfl, R', g1, g2, g3, g4, g5⟩
  have hlt := HL.out.1
  have hX := (g1.yes i _ x g5).1
  have hlen := (g1.dl i _ _ g5).1
  have hl : ((frAt (rFs R) i).data.take m).length = m := by rw [List.length_take, hlen]; omega
  have hrd : Rd w2 1 (.slice (some ⟨x, 0, none⟩) m 152064) m (byteCells ((frAt (rFs R) i).data.take m)) := by
    refine ⟨by rw [byteCells_length, Nat.mul_one, hl], some ⟨x, 0, none⟩, 152064, rfl, by omega, fun _ => ⟨x, 0, rfl, fun j u hu => ?_⟩⟩
    refine hX.cell ?_
    rw [Nat.zero_add]
    unfold byteCells at hu ⊢
    rw [List.map_take, List.getElem?_take] at hu
    split at hu
    · exact hu
    · cases hu
  have hlw : lb ≠ w.heap.size := by have := (hlt lb (by unfold rOwn; simp)).2; omega
  have hs0 : Sl w2 w.heap.size 5 1 (.slice (some ⟨w.heap.size, 0, none⟩) 0 0) 0 [] := (Sl.lit w [] 5 0 rfl (by decide) (Nat.le_refl _)).only g3 (fun g hg hm => by
    simp only [Value.ownBlock, Option.map_some, Option.some.injEq] at hg
    simp only [List.mem_singleton] at hm
    omega)
  have hsz : w.heap.size < w2.heap.size := by have := g3.size; simp at this; omega
  have hnw : ∀ k ∈ rOwn b lb R', k ≠ w.heap.size := fun k hk => by
    rcases g4 k hk with hh | hh
    · have := (hlt k hh).2; omega
    · simp at hh; omega
  have hRR : ∀ k ∈ rOwn b lb R', k ∈ rOwn b lb R ∨ w.heap.size ≤ k := fun k hk => (g4 k hk).imp id (fun hh => by simp at hh; omega)
  have HX := Lib.hid (And.intro g1 (And.intro g2 (And.intro g3 (And.intro hnw (And.intro hRR hsz)))))
  have HR := Lib.hid (And.intro hrd hs0)
  have hb1 := byteCells_one ((frAt (rFs R) i).data.take m)
  generalize hQ : (frAt (rFs R) i).data.take m = Q at HR hl hb1
  have HQ := Lib.hid hQ
  have hl' := hl
  clear hm g1 g2 g3 g4 g5 hX hlen hrd hs0 hlw hnw hRR hsz hlt HL HA hQ hl
  go_wp2_with (at_builtin; refine wpList_append_sl rfl _ _ 54 rfl w.heap.size 5 i0 _ 1 1 Try.underlying54 hi0 hz0 hz1 hz2 rfl (by decide) _ 0 [] rfl HR.out.2 _ m (byteCells Q) rfl HR.out.1 hb1 (by simp only [maxLen]; omega) (by omega) (Nat.le_of_lt HX.out.2.2.2.2.2) ?_; intro v1 w3 hs1 hg1 hat1; rw [Nat.zero_add, List.nil_append] at hs1)
  obtain ⟨g1, g2, g3, hnw, hRR, hsz⟩ := HX.out
  have hgx : w2.grownBy w3 (some w.heap.size) := hg1
  have htx : OnlyIn [w.heap.size] w2 w3 := (OnlyIn.refl _ _).grown hgx (fun k hk => .inl (by cases hk; simp))
  have hat : ∀ g, v1.ownBlock = some g → g = w.heap.size ∨ w2.heap.size ≤ g := fun g hg => (hat1 g hg).imp (fun h => by cases h; rfl) id
  have hall : ∃ R', RfAt w3 base b lb N q R' ∧ rFs R' = rFs R ∧ OnlyIn [lb] w w3 ∧ (∀ k ∈ rOwn b lb R', k ∈ rOwn b lb R ∨ w.heap.size ≤ k) ∧ ∀ g, v1.ownBlock = some g → g ∉ rOwn b lb R' := by
    refine ⟨R', g1.only htx (fun k hk hm => ?_), g2, ((((OnlyIn.refl _ _).alloc _).trans g3).grown hgx (fun k hk => .inr (by cases hk; exact Nat.le_refl _))), hRR, fun g hg hm => ?_⟩
    · simp only [List.mem_singleton] at hk
      exact hnw k hm hk
    · rcases hat g hg with hh | hh
      · exact hnw g hm hh
      · have := (g1.lt g hm).2
        omega
  have HF := Lib.hid hall
  have HS := Lib.hid hs1
  clear hgx htx hat hall hat1 hg1 hs1 g1 g2 g3 hnw hRR hsz hb1 HR
  go_ret2
  rw [HQ.out]
  refine ⟨v1, rfl, ?_, HF.out⟩
  rw [hl']
  exact HS.out
end
end Go.Proofs.Ytmbnmhcfafgnaaa
