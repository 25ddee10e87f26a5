/-
  Package pool: Release, Acquire, Reclaim.
-/
import Derived.Test.YtmbnmhcfafgnaaaPool3
import Derived.Sort.LoopGhostIn
namespace Go.Proofs.Ytmbnmhcfafgnaaa
open Go.RowKit Go.Mine

section
variable {w w1 w' : World} {base b N T : Nat} {quota : Int} {B : PB} {iv iv1 : Value} {il : List Nat} {fs fs1 : List Fr}
theorem PlOut.after (h1 : PlOut w1 w' base b N T quota B iv1 fs) (ht : OnlyIn (b :: B.mb :: (iv.ownBlock.toList ++ B.fbs)) w w1) (hg : ∀ g, iv1.ownBlock = some g → iv.ownBlock = some g ∨ w.heap.size ≤ g) : PlOut w w' base b N T quota B iv fs := by
  obtain ⟨iv', il', hP, hk, ho⟩ := h1
  refine ⟨iv', il', hP, ht.then hk fun k hm => ?_, fun g hh => ?_⟩
  · simp only [List.mem_cons, List.mem_append, Option.mem_toList] at hm ⊢
    rcases hm with hm | hm | hm | hm
    · exact .inl (.inl hm)
    · exact .inl (.inr (.inl hm))
    · exact (hg k hm).elim (fun h => .inl (.inr (.inr (.inl h)))) .inr
    · exact .inl (.inr (.inr (.inr hm)))
  · rcases ho g hh with h2 | h2
    · exact hg g h2
    · exact .inr (Nat.le_trans ht.size h2)

def relF (fs : List Fr) (n o : Int) : List Fr := if whyF fs n o = 0 then (if (frAt fs n.toNat).handles = 1 then fs.set n.toNat ⟨0, 0, (frAt fs n.toNat).data⟩ else fs.set n.toNat ⟨(frAt fs n.toNat).owner, (frAt fs n.toNat).handles - 1, (frAt fs n.toNat).data⟩) else fs
set_option maxRecDepth 100000 in
set_option maxHeartbeats 1000000 in
theorem pl_release (h : PlAt w base b N T quota B iv il fs) (hT : T < 100000) (n o : Int) (hb : ∀ f ∈ fs, 0 ≤ f.handles ∧ f.handles ≤ 1000000 ∧ 0 ≤ f.owner ∧ f.owner ≤ 2147483647) :
    Calls Try.prog 32 #[.pointer (some ⟨b, 0, none⟩), .int .i64 n, .int .i64 o] w fun e w' => e = .returned (.int .i64 (whyF fs n o)) ∧ PlOut w w' base b N (T + 1) quota B iv (relF fs n o) := by
  have hof := pl_of h n o
  unfold relF
  obtain ⟨r, hr⟩ : ∃ r, whyF fs n o = r := ⟨_, rfl⟩
  rw [hr] at hof ⊢
  by_cases h0 : r = 0
  · subst h0
    rw [if_pos rfl]
    obtain ⟨i, rfl, hi, ho, hne⟩ := whyF_ok hr
    unfold ptrF at hof
    rw [if_pos rfl] at hof
    simp only [Int.toNat_natCast] at hof ⊢
    have hiN : i < N := by rw [← h.ls]; exact hi
    have c1 := (h.rest.fr i hiN).blk.cell (i := 1) rfl
    have f1 := (h.rest.fr i hiN).blk.free 1
    have hbd := hb (frAt fs i) (by rw [frAt_eq hi]; exact List.getElem_mem hi)
    have hout := h.hands hiN ((frAt fs i).handles - 1)
    have hmem := h.fb_mem hiN
    have hfr := pl_frees hout hiN (o := o) (by rw [frAt_set_same hi]; exact ho) (by omega) hT
    rw [frAt_set_same hi, List.set_set] at hfr
    have ht : OnlyIn (b :: B.mb :: (iv.ownBlock.toList ++ B.fbs)) w (w.setCell ⟨B.fb i, 1, none⟩ (.int .i64 ((frAt fs i).handles - 1))) := (OnlyIn.refl _ _).setCell (.inl (by simp [hmem])) _
    obtain ⟨k, hk⟩ : ∃ k, (frAt fs i).handles = k := ⟨_, rfl⟩
    rw [hk] at c1 hbd hfr hout ht ⊢
    have hw : IntKind.i64.wrap (k - 1) = k - 1 := by rw [IntKind.wrap_i64]; omega
    have HO := Lib.hid (And.intro hout ht)
    have g1 := hout.rest.fr i hiN |>.blk.cell (i := 1) rfl
    rw [frAt_set_same hi] at g1
    clear h hb hr hi hout hmem hk ho ht
    by_cases hz : k = 1
    · subst hz
      rw [if_pos rfl]
      go_enter Try.func32, Try.ntmps32
      go_wp2_with (go_at_call 53; refine hof.mono ?_; rintro e w' ⟨rfl, rfl⟩)
      refine hfr.mono ?_
      rintro e w2 ⟨⟨v, rfl⟩, hX⟩
      have HX := Lib.hid hX
      clear hX hfr
      go_wp2_with fail
      go_ret
      exact ⟨rfl, HX.out.after HO.out.2 (fun g hg => .inl hg)⟩
    · rw [if_neg hz]
      have d : (k - 1 == 0) = false := by simp; omega
      clear hfr
      go_enter Try.func32, Try.ntmps32
      go_wp2_with (go_at_call 53; refine hof.mono ?_; rintro e w' ⟨rfl, rfl⟩)
      go_ret
      exact ⟨rfl, iv, il, HO.out.1.more (by omega), HO.out.2, fun g hg => .inl hg⟩
  · rw [if_neg h0]
    unfold ptrF at hof
    rw [if_neg h0] at hof
    have d : (r != 0) = true := by simpa using h0
    have HO := Lib.hid (h.more (T' := T + 1) (by omega)).stay
    clear h hb hr
    go_enter Try.func32, Try.ntmps32
    go_wp2_with (go_at_call 53; refine hof.mono ?_; rintro e w' ⟨rfl, rfl⟩)
    go_ret
    exact ⟨rfl, HO.out⟩

def acqE (fs : List Fr) (quota o : Int) : Int := if 1 ≤ o ∧ o ≤ 2147483647 then (if heldN fs o < quota then (if freeI fs = [] then 15 else 0) else 17) else 3
def acqN (fs : List Fr) (quota o : Int) : Nat := if acqE fs quota o = 0 then (freeI fs).headD 0 else 0
def acqS (fs : List Fr) (quota o : Int) : List Fr := if acqE fs quota o = 0 then fs.set (acqN fs quota o) ⟨o, 1, (frAt fs (acqN fs quota o)).data⟩ else fs
theorem acq_bad {fs : List Fr} {quota o r : Int} (h : acqE fs quota o = r) (h0 : r ≠ 0) : acqN fs quota o = 0 ∧ acqS fs quota o = fs := by
  unfold acqS acqN
  rw [h]
  exact ⟨if_neg h0, if_neg h0⟩
theorem acq_ok {fs : List Fr} {quota o : Int} {i : Nat} {l : List Nat} (h : acqE fs quota o = 0) (hl : freeI fs = i :: l) : acqN fs quota o = i ∧ acqS fs quota o = fs.set i ⟨o, 1, (frAt fs i).data⟩ := by
  have : acqN fs quota o = i := by
    unfold acqN
    rw [if_pos h, hl]
    rfl
  unfold acqS
  rw [if_pos h, this]
  exact ⟨rfl, rfl⟩
theorem freeI_least {fs : List Fr} {i : Nat} {l : List Nat} (hl : freeI fs = i :: l) : ∀ k ∈ freeI fs, i ≤ k := by
  have hp : (freeI fs).Pairwise (· < ·) := List.Pairwise.filter _ List.pairwise_lt_range
  rw [hl] at hp ⊢
  intro k hk
  rcases List.mem_cons.1 hk with rfl | hk
  · exact Nat.le_refl _
  · exact Nat.le_of_lt (List.rel_of_pairwise_cons hp hk)

set_option maxRecDepth 100000 in
set_option maxHeartbeats 2000000 in
theorem pl_acquire (h : PlAt w base b N T quota B iv il fs) (hT : T < 100000) (o : Int) (ho : -9223372036854775808 ≤ o ∧ o ≤ 9223372036854775807) :
    Calls Try.prog 43 #[.pointer (some ⟨b, 0, none⟩), .int .i64 o] w fun e w' => e = .returned (.tuple #[.int .i64 (acqN fs quota o : Int), .int .i64 (acqE fs quota o)]) ∧ PlOut w w' base b N (T + 1) quota B iv (acqS fs quota o) := by
  have hno := pl_none h
  have HH := Lib.hid h
  by_cases h1 : 1 ≤ o ∧ o ≤ 2147483647
  case neg =>
    have he : acqE fs quota o = 3 := if_neg h1
    obtain ⟨e1, e2⟩ := acq_bad he (by decide)
    rw [e1, e2, he]
    clear h e1 e2 he
    by_cases h2 : o < 1
    · have d1 : decide (o < 1) = true := decide_eq_true h2
      go_enter Try.func43, Try.ntmps43
      go_wp2_with (go_at_call 55; refine hno.mono ?_; rintro e w' ⟨rfl, rfl⟩)
      go_ret2
      exact ⟨rfl, (HH.out.more (by omega)).stay⟩
    · have d1 : decide (o < 1) = false := decide_eq_false h2
      have d2 : decide (2147483647 < o) = true := decide_eq_true (by omega)
      go_enter Try.func43, Try.ntmps43
      go_wp2_with (go_at_call 55; refine hno.mono ?_; rintro e w' ⟨rfl, rfl⟩)
      go_ret2
      exact ⟨rfl, (HH.out.more (by omega)).stay⟩
  have d1 : decide (o < 1) = false := decide_eq_false (by omega)
  have d2 : decide (2147483647 < o) = false := decide_eq_false (by omega)
  have c2 := h.blk.cell (i := 2) rfl
  have c3 := h.blk.cell (i := 3) rfl
  have hD : PlAt w.drew base b N T quota B iv il fs := h.only0 (by (repeat (first | (with_reducible assumption) | (with_reducible exact OnlyIn.refl _ _) | (with_reducible refine OnlyIn.setCell ?_ (by first | simp | (simp; omega)) _) | (with_reducible refine OnlyIn.drewN ?_ _) | (with_reducible refine OnlyIn.drew ?_) | (with_reducible refine OnlyIn.alloc ?_ _))))
  have hlk := pl_look hD o ho
  have hfl := hold_field
  have hE : acqE fs quota o = (if heldN fs o < quota then (if freeI fs = [] then 15 else 0) else 17) := if_pos h1
  obtain ⟨z, hz⟩ : ∃ z, heldN fs o = z := ⟨_, rfl⟩
  rw [hz] at hlk hE
  by_cases h2 : quota ≤ z
  · rw [if_neg (by omega)] at hE
    obtain ⟨e1, e2⟩ := acq_bad hE (by decide)
    rw [e1, e2, hE]
    have d3 : decide (quota ≤ z) = true := decide_eq_true h2
    clear h e1 e2 hE hz
    go_enter Try.func43, Try.ntmps43
    go_wp2_with (go_at_call 55; refine hno.mono ?_; rintro e w' ⟨rfl, rfl⟩)
    go_region
    go_wp2_with fail
    go_ret2
    exact ⟨rfl, (HH.out.only0 (by (repeat (first | (with_reducible assumption) | (with_reducible exact OnlyIn.refl _ _) | (with_reducible refine OnlyIn.setCell ?_ (by first | simp | (simp; omega)) _) | (with_reducible refine OnlyIn.drewN ?_ _) | (with_reducible refine OnlyIn.drew ?_) | (with_reducible refine OnlyIn.alloc ?_ _)))) |>.more (by omega)).stay.after (by (repeat (first | (with_reducible assumption) | (with_reducible exact OnlyIn.refl _ _) | (with_reducible refine OnlyIn.setCell ?_ (by first | simp | (simp; omega)) _) | (with_reducible refine OnlyIn.drewN ?_ _) | (with_reducible refine OnlyIn.drew ?_) | (with_reducible refine OnlyIn.alloc ?_ _)))) (fun g hg => .inl hg)⟩
  have d3 : decide (quota ≤ z) = false := decide_eq_false h2
  rw [if_pos (by omega)] at hE
  have c1 := hD.blk.cell (i := 1) rfl
  have hpl := hD.il_len
  obtain ⟨A, c, hv, hc⟩ := hD.sl.val
  have HD := Lib.hid hD
  rw [hv] at c1
  have HV := Lib.hid hv
  obtain ⟨n, hn⟩ : ∃ n, il.length = n := ⟨_, rfl⟩
  have HN := Lib.hid hn
  rw [hn] at c1 hpl hc
  by_cases h3 : n = 0
  · subst h3
    have hnil : freeI fs = [] := List.length_eq_zero_iff.1 hpl.1.symm
    rw [if_pos hnil] at hE
    obtain ⟨e1, e2⟩ := acq_bad hE (by decide)
    rw [e1, e2, hE]
    clear h hD e1 e2 hE hz hpl hv hn hnil
    go_enter Try.func43, Try.ntmps43
    go_wp2_with (go_at_call 55; refine hno.mono ?_; rintro e w' ⟨rfl, rfl⟩)
    go_region
    go_wp2_with fail
    go_ret2
    exact ⟨rfl, (HD.out.more (by omega)).stay.after (by (repeat (first | (with_reducible assumption) | (with_reducible exact OnlyIn.refl _ _) | (with_reducible refine OnlyIn.setCell ?_ (by first | simp | (simp; omega)) _) | (with_reducible refine OnlyIn.drewN ?_ _) | (with_reducible refine OnlyIn.drew ?_) | (with_reducible refine OnlyIn.alloc ?_ _)))) (fun g hg => .inl hg)⟩
  have hne : ¬ freeI fs = [] := fun e => by rw [e] at hpl; exact h3 hpl.1
  rw [if_neg hne] at hE
  obtain ⟨i, l, hil⟩ : ∃ i l, freeI fs = i :: l := by
    cases e : freeI fs with
    | nil => exact absurd e hne
    | cons i l => exact ⟨i, l, rfl⟩
  obtain ⟨e1, e2⟩ := acq_ok hE hil
  rw [e1, e2, hE]
  have d4 : ((n : Int) == 0) = false := by simp; omega
  have hst : StI b base (.slice (some ⟨B.ab, 0, none⟩) N N) (.map (some B.mb)) (.int .i64 quota) (PlC w (b :: B.mb :: (iv.ownBlock.toList ++ B.fbs)) base N T B fs (heldF fs)) il w.drew :=
    ⟨iv, HD.out.blk, HD.out.sl, HD.out.bw, by have := HD.out.il_len; omega, HD.out.rest, HD.out.outs, by (repeat (first | (with_reducible assumption) | (with_reducible exact OnlyIn.refl _ _) | (with_reducible refine OnlyIn.setCell ?_ (by first | simp | (simp; omega)) _) | (with_reducible refine OnlyIn.drewN ?_ _) | (with_reducible refine OnlyIn.drew ?_) | (with_reducible refine OnlyIn.alloc ?_ _))), fun g hg => .inl (by
      simp only [List.mem_cons, Option.mem_toList] at hg
      rcases hg with rfl | hg
      · simp
      · simp [hg])⟩
  have hpo := Pop_any (heapPool b base _ _ _ _ PlC.step) hst (by omega) HD.out.hp
  have mip := mipI
  have hta := ita
  have HX := Lib.hid (And.intro hil (And.intro hz (And.intro h1 hT)))
  clear h hD e1 e2 hE hz hpl hv hn hne hil hst
  go_enter Try.func43, Try.ntmps43
  go_wp2_with (go_at_call 55; refine hno.mono ?_; rintro e w' ⟨rfl, rfl⟩)
  go_region
  go_wp2_with fail
  refine hpo.mono ?_
  clear hpo
  rintro e w1 ⟨x, l', rfl, hle, hp, hh, iv', hB, hs, hb, hl, hR, ho', ht, hg⟩
  unfold boxN
  obtain ⟨hil, hz, h1, hT⟩ := HX.out
  have hxi : x = i := by
    have hx1 : x ∈ freeI fs := HD.out.pm.mem_iff.1 (hp.mem_iff.2 List.mem_cons_self)
    have hi1 : i ∈ il := HD.out.pm.mem_iff.2 (by rw [hil]; exact List.mem_cons_self)
    have := hle i hi1
    have := freeI_least hil x hx1
    unfold ltN at hle
    simp only [ltN, decide_eq_false_iff_not] at *
    omega
  subst hxi
  obtain ⟨hi, h0⟩ := mem_freeI.1 (show x ∈ freeI fs by rw [hil]; exact List.mem_cons_self)
  have hiN : x < N := by rw [← HD.out.ls]; exact hi
  have k0 := hB.cell (i := 0) rfl
  have k1 := hR.ptr hiN
  have hF := hR.fr x hiN
  have g0 := hF.blk.cell (i := 0) rfl
  have g1 := hF.blk.cell (i := 1) rfl
  have f0 := hF.blk.free 0
  have f1 := (hF.blk.set 0 (.int .i64 o)).free 1
  have hfr : FrAt ((w1.setCell ⟨B.fb x, 0, none⟩ (.int .i64 o)).setCell ⟨B.fb x, 1, none⟩ (.int .i64 1)) (B.fb x) (B.bo x) ⟨o, 1, (frAt fs x).data⟩ :=
    ⟨(hF.blk.set 0 _).set 1 _, hF.len, hF.no, fun bb hb => ((hF.yes bb hb).far (p := ⟨B.fb x, 0, none⟩) ((hF.yes bb hb).ne_ hF.blk (by decide)) _).far (p := ⟨B.fb x, 1, none⟩) ((hF.yes bb hb).ne_ hF.blk (by decide)) _⟩
  have ht2 : OnlyIn [B.fb x] w1 ((w1.setCell ⟨B.fb x, 0, none⟩ (.int .i64 o)).setCell ⟨B.fb x, 1, none⟩ (.int .i64 1)) := ((OnlyIn.refl _ _).setCell (.inl (by simp)) _).setCell (.inl (by simp)) _
  have hR2 := hR.setFr hiN ht2 hfr
  have hbf : b ≠ B.fb x := fun e => ho' b (by simp) (.inr (.inr (.inl ⟨x, hiN, e.symm⟩)))
  have hB2 := hB.only ht2 (by simp [hbf])
  have hs2 := hs.only ht2 (fun g hg' hk => ho' g (by simp [hg']) (.inr (.inr (.inl ⟨x, hiN, by simpa [eq_comm] using hk⟩))))
  have hbd := heldN_le fs o
  have h64 := HD.out.n64
  have hls := HD.out.ls
  have htt := ht.then ht2 (fun k hk => .inl (by
    have := HD.out.fb_mem hiN
    simp only [List.mem_singleton] at hk
    simp [hk, this]))
  have hlen : freeI (fs.set x ⟨o, 1, (frAt fs x).data⟩) = freeI (fs.set x ⟨o, 1, (frAt fs x).data⟩) := rfl
  generalize hw2 : (w1.setCell ⟨B.fb x, 0, none⟩ (.int .i64 o)).setCell ⟨B.fb x, 1, none⟩ (.int .i64 1) = w2 at hfr ht2 hR2 hB2 hs2 htt
  have hm := more_any w2 (hB2.cell (i := 2) rfl) hR2.map hT o ho 1 (heldN fs o) (heldF_getD fs o) (by omega) hB2.lt
  rw [if_neg (by omega)] at hm
  have HZ := Lib.hid (And.intro hp (And.intro hh (And.intro hB2 (And.intro hs2 (And.intro hR2 (And.intro ho' (And.intro htt (And.intro hg (And.intro hi h0)))))))))
  clear hle hp hh hB hs hb hl hR ho' ht hg hfr ht2 hR2 hB2 hs2 htt hil hz h1 hT hi h0 hF hbd h64 hls hlen
  go_wp2_with fail
  refine hm.mono ?_
  rintro e w3 ⟨⟨v, rfl⟩, hM, ht3⟩
  have HM := Lib.hid (And.intro hM ht3)
  clear hm hM ht3
  go_wp2_with fail
  go_ret2
  obtain ⟨hM, ht3⟩ := HM.out
  obtain ⟨hp, hh, hB, hs, hR, ho', ht, hg, hi, h0⟩ := HZ.out
  obtain ⟨hil, hz, h1, hT⟩ := HX.out
  have hbm : b ∉ [B.mb] := fun hk => by
    simp only [List.mem_singleton] at hk
    exact ho' b (by simp) (.inr (.inl hk))
  have hpm := HD.out.pm
  refine ⟨rfl, iv', l', ⟨hB.only ht3 hbm, hs.only ht3 (fun g hg' hk => ?_), ?_, hh, (hR.setMap ht3 hM).ext fun y => ?_, HD.out.bb, Nat.le_trans HD.out.bw (by have := ht.size; have := ht3.size; simp at *; omega), HD.out.q1, HD.out.n64⟩, ht.then ht3 (fun k hk => ?_), fun g hg' => ?_⟩
  · simp only [List.mem_singleton] at hk
    exact ho' g (by simp [hg']) (.inr (.inl hk))
  · exact List.Perm.cons_inv ((hp.symm.trans hpm).trans (freeI_take hi h0 (f := ⟨o, 1, (frAt fs x).data⟩) (by show o ≠ 0; omega)))
  · exact heldF_take hi h0 (f := ⟨o, 1, (frAt fs x).data⟩) (o := o) rfl (by omega) y
  · simp only [List.mem_singleton] at hk
    exact .inl (by simp [hk])
  · rcases hg g (by simp [hg']) with h9 | h9
    · simp only [List.mem_cons, List.mem_append, Option.mem_toList] at h9
      rcases h9 with h9 | h9 | h9 | h9
      · exact absurd h9 ((hB.ne_own hs (by decide)) <| by rw [hg', ·])
      · exact absurd (.inr (.inl h9)) (ho' g (by simp [hg']))
      · exact .inl h9
      · refine absurd (.inr (.inr (.inl ?_))) (ho' g (by simp [hg']))
        obtain ⟨j, hj, hx⟩ := List.mem_iff_getElem.1 h9
        refine ⟨j, by rw [← HD.out.rest.lf]; exact hj, ?_⟩
        unfold PB.fb
        rw [List.getD_eq_getElem?_getD, List.getElem?_eq_getElem hj]
        exact hx
    · exact .inr h9
end
end Go.Proofs.Ytmbnmhcfafgnaaa
