/-
  Law 28: PressTurned: the walk.
-/
import Derived.Test.YtmbnmhcfafgnaaaPressEnoughW
import Derived.Test.YtmbnmhcfafgnaaaInv
namespace Go.Proofs.Ytmbnmhcfafgnaaa
open Go.RowKit Go.Mine

set_option maxRecDepth 100000 in
set_option maxHeartbeats 4000000 in
theorem PressTurned_walk {w : World} (x : Value × List Holder) (hx : Rd w 2 x.1 x.2.length (hcs x.2) ∧ (∀ a ∈ x.2, Holder.ok a) ∧ x.2.length ≤ maxLen) (a : Int) (ha : -9223372036854775808 ≤ a ∧ a ≤ 9223372036854775807) (b : Int) (hb : -9223372036854775808 ≤ b ∧ b ≤ 9223372036854775807)
    (y : Value × List Int) (hy : Rd w 1 y.1 y.2.length (intCells y.2) ∧ (∀ z ∈ y.2, -9223372036854775808 ≤ z ∧ z ≤ 9223372036854775807) ∧ y.2.length ≤ maxLen) :
    Calls Try.prog 5 #[x.1, .int .i64 a, .int .i64 b, y.1] w fun e w' => e = .returned (.bool true) ∧ OnlyIn [] w w' := by
  obtain ⟨lv, l⟩ := x
  obtain ⟨hrd, -, hll⟩ := hx
  obtain ⟨sv, sw⟩ := y
  obtain ⟨hrs, hsb, hsl⟩ := hy
  simp only at hrd hll hrs hsb hsl ⊢
  simp only [maxLen] at hll hsl
  obtain ⟨A, c, rfl, hnc⟩ : ∃ A c, lv = .slice A l.length c ∧ l.length ≤ c := by
    obtain ⟨-, A, c, h1, h2, -⟩ := hrd; exact ⟨A, c, h1, h2⟩
  obtain ⟨E, f, rfl, hff⟩ : ∃ A c, sv = .slice A sw.length c ∧ sw.length ≤ c := by
    obtain ⟨-, A, c, h1, h2, -⟩ := hrs; exact ⟨A, c, h1, h2⟩
  obtain ⟨n, hn⟩ : ∃ n, l.length = n := ⟨_, rfl⟩
  obtain ⟨M, hM⟩ : ∃ M, sw.length = M := ⟨_, rfl⟩
  rw [hn] at hrd hll hnc ⊢
  rw [hM] at hrs hsl hff ⊢
  have hkn := known28 w
  have hrd' := fun w1 (ho : OnlyIn [] w w1) => (show Rd w1 2 (.slice A n c) n (hcs l) from hrd.cells fun p u hp => ho.cell hp (by simp))
  have hrs' := fun w1 (ho : OnlyIn [] w w1) => (show Rd w1 1 (.slice E M f) M (intCells sw) from hrs.cells fun p u hp => ho.cell hp (by simp))
  have hch := fun w1 (ho : OnlyIn [] w w1) => hCheck_any w1 A n c l (hrd' w1 ho) hn hnc
  obtain ⟨free, hf1, hf2, hpa⟩ := pick28 a ha
  obtain ⟨want, hw1, hw2, hpb⟩ := pick28 b hb
  obtain ⟨i0, hi0, hz0, hz1, hz2⟩ := info_parts Try.infoHold
  rcases checkF_cases l with ⟨hO, e⟩ | ⟨hO, e⟩
  · rw [e] at hch
    have hn64 : n ≤ 64 := by rw [← hn]; exact hO.1
    have hd : decide ((64 : Int) < (n : Int)) = false := decide_eq_false (by omega)
    by_cases h100 : 100 < M
    · have hd2 : decide ((100 : Int) < (M : Int)) = true := decide_eq_true (by omega)
      clear hpa hpb hrd hrd' hrs hrs' hO e hn hb ha hsb hM
      go_enter Try.func5, Try.ntmps5
      go_wp2_with (first | (go_at_call 4; refine hkn.mono ?_; rintro e w1 ⟨rfl, o1⟩; clear hkn) | (go_at_call 19; refine (hch _ o1).mono ?_; rintro e w2 ⟨rfl, t2⟩; clear hch))
      go_ret
      exact ⟨rfl, o1.trans t2⟩
    have hd2 : decide ((100 : Int) < (M : Int)) = false := decide_eq_false (by omega)
    have hok : PlanOk l free want := ⟨hO, hf1, hf2, hw1, hw2⟩
    obtain ⟨ids, pf, hpr⟩ : ∃ ids pf, planR l free want = (ids, pf, 0) := by unfold planR; rw [if_pos hok]; exact ⟨_, _, rfl⟩
    obtain ⟨⟨vx, ve⟩, hv⟩ : ∃ z, victimF l = z := ⟨_, rfl⟩
    have hsame : ∀ L : List Holder, L.Perm l → planR L free want = (ids, pf, 0) ∧ victimF L = (vx, ve) := fun L hp => by
      obtain ⟨h1, h2⟩ := vict_same hO hp
      have hok2 : PlanOk L free want := ⟨h1, hf1, hf2, hw1, hw2⟩
      refine ⟨?_, ?_⟩
      · rw [← hpr]; unfold planR; rw [if_pos hok, if_pos hok2, h2]
      · rw [← hv]; unfold victimF; rw [if_pos hO, if_pos h1, h2]
    have hil : ids.length ≤ 64 := by have := planR_ids_len (l := l) (free := free) (want := want); rw [hpr] at this; exact this
    obtain ⟨m, hm⟩ : ∃ m, ids.length = m := ⟨_, rfl⟩
    rw [hm] at hil
    have HP := Lib.hid (And.intro hpr (And.intro hv (And.intro hsame (And.intro hm hsb))))
    have HR := Lib.hid (And.intro hrd' (And.intro hn (And.intro hrs' hM)))
    clear e hrd hrd' hrs hrs' hpr hv hsame hok hm hn hM hsb ha hb hO
    go_enter Try.func5, Try.ntmps5
    go_wp2_with (first | (go_at_call 4; refine hkn.mono ?_; rintro e w1 ⟨rfl, o1⟩; clear hkn) | (go_at_call 19; refine (hch _ o1).mono ?_; rintro e w2 ⟨rfl, t2⟩; clear hch; have o2 := o1.trans t2; clear o1 t2) | (go_at_call 28; refine (hpa _).mono ?_; rintro e w' ⟨rfl, rfl⟩; clear hpa) | (go_at_call 28; refine (hpb _).mono ?_; rintro e w' ⟨rfl, rfl⟩; clear hpb) | (at_builtin; refine wpList_append_sl rfl _ _ 22 rfl w.heap.size 41 i0 _ 2 16 Try.underlying22 hi0 hz0 hz1 hz2 rfl (by decide) (.slice (some ⟨w2.heap.size, 0, none⟩) 0 0) 0 [] rfl (sl_fresh w2 41 2 w.heap.size o2.size) (.slice A n c) n (hcs l) rfl (HR.out.1 _ (o2.alloc _)) (hcs_one l) (by simp only [maxLen]; omega) (by omega) (by have := o2.size; simp; omega) ?_; intro v5 w3 hs5 hg5 hat5))
    rw [List.nil_append, Nat.zero_add] at hs5
    have o3 : OnlyIn [] w w3 := (o2.alloc (.cells #[] 41)).grown hg5 (fun g hg => .inr (by simp [Value.ownBlock] at hg; have := o2.size; omega))
    obtain ⟨A5, c5, rfl, hc5⟩ := hs5.val
    have HS := Lib.hid (And.intro o3 hs5)
    clear hg5 hat5 o2 o3 hs5
    go_wp2_with fail
    go_loopw [11, 12, 13, 14] (fun i _ _ _ wr => ∃ k : Nat, k ≤ M ∧ i = .int .i64 (k : Int) ∧ Hid (∃ L : List Holder, L.Perm l ∧ Sl wr w.heap.size 41 2 (.slice A5 n c5) n (hcs L) ∧ OnlyIn [] w wr)) (fun i _ _ _ _ => M - (intOf i).toNat)
    case atStart => exact ⟨0, by omega, rfl, Lib.hid ⟨l, .refl _, HS.out.2, HS.out.1⟩⟩
    case round =>
      obtain ⟨k, hk, rfl, HK⟩ := hrel
      obtain ⟨L, hp, hs, hto⟩ := HK.out
      have hLn : L.length = n := by rw [hp.length_eq, HR.out.2.1]
      by_cases hgo : k < M ∧ 0 < n
      · obtain ⟨hlt, hn0⟩ := hgo
        have dk : decide ((k : Int) < (M : Int)) = true := decide_eq_true (by omega)
        have dn : decide ((0 : Int) < (n : Int)) = true := decide_eq_true (by omega)
        have hnz : ¬ (n : Int) = 0 := by omega
        have hnz2 : ¬ n = 0 := by omega
        obtain ⟨gs, os, rfl, s0⟩ := rd_int (HR.out.2.2.1 wr hto) HR.out.2.2.2 hlt
        have hkl : k < sw.length := by rw [HR.out.2.2.2]; exact hlt
        obtain ⟨z, hz⟩ : ∃ z, sw[k]'hkl = z := ⟨_, rfl⟩
        rw [hz] at s0
        have hzb := HP.out.2.2.2.2 z (by rw [← hz]; exact List.getElem_mem hkl)
        obtain ⟨q, hq⟩ : ∃ q, k % n = q := ⟨_, rfl⟩
        have hqn : q < n := by rw [← hq]; exact Nat.mod_lt _ hn0
        have hrem : (k : Int).tmod (n : Int) = (q : Int) := by rw [Int.tmod_eq_emod_of_nonneg (by omega)]; omega
        have hrem2 : (k : Int) % (n : Int) = (q : Int) := by omega
        obtain ⟨r, hr⟩ : ∃ r : Nat, z % (n : Int) = (r : Int) := Int.eq_ofNat_of_zero_le (Int.emod_nonneg _ (by omega))
        have hrn : r < n := by have := Int.emod_lt_of_pos z (show (0 : Int) < (n : Int) by omega); omega
        have hpk := fun w9 => Pick_any z (n : Int) w9 (by omega) (by omega) hzb.1 hzb.2
        rw [hr] at hpk
        have hqL : q < L.length := by omega
        have hrL : r < L.length := by omega
        obtain ⟨x, hx⟩ : ∃ x, L[q]? = some x := ⟨_, List.getElem?_eq_getElem hqL⟩
        obtain ⟨y, hy⟩ : ∃ y, L[r]? = some y := ⟨_, List.getElem?_eq_getElem hrL⟩
        obtain ⟨g, off, he, a0, a1⟩ := rd_hold (Rd.of_sl hs) hLn hx
        subst he
        obtain ⟨g', off', he, b0, b1⟩ := rd_hold (Rd.of_sl hs) hLn hy
        injection he with he
        injection he with e1 e2 _
        subst e1 e2
        have hgw := (hs.own_lt g rfl).2
        have hgb := (hs.own_lt g rfl).1
        have hpL := (swapL_perm hqL hrL).trans hp
        have hxy : q = r → x = y := fun e => by rw [e, hy] at hx; injection hx with hx; exact hx.symm
        have hfin := fun wa (o : OnlyIn [] wr wa) => hstored2 (hstored2 (hs.only o (by simp)) hqL y) (i := r) (by rw [List.length_set]; exact hrL) x
        rw [← swapL_eq hx hy] at hfin
        have HF := Lib.hid (And.intro hpL (And.intro hfin (And.intro hto hs)))
        clear hp hs hto hpL hfin hz hkl hq hr hzb hLn HK hx hy hqL hrL
        go_wp2_with fail
        (refine Go.Mine.wp_region_inv (Go.Mine.OnlyIn [] _) (by kernel_rfl) (by kernel_rfl) ((Go.Mine.OnlyIn.refl _ _).drew) ?_; (repeat (first | (refine Go.Mine.wpInv_run _ (by first | rfl | go_simp) (fun W hW => by (have q0 := hW.cell s0 (by simp); go_simp; first | exact ⟨rfl, hW⟩ | exact rfl | (simp only [Go.Mine.Oper.invUpon]; exact (hpk W).mono (fun e w'' h => ⟨h.1, by rw [← h.2]; exact hW⟩)))) ?_; go_simp) | (refine Go.Mine.wpInv_skip (by first | rfl | go_simp) ?_; go_simp))); refine Go.Mine.wpInv_nil ?_; intro W hW; have q0 := hW.cell s0 (by simp))
        have hs4 := HF.out.2.2.2.only hW (by simp)
        have fr := hs4.free_at rfl
        have f0 := fr (off + q * 2)
        have f1 := fr (off + q * 2 + 1)
        have f2 := fr (off + r * 2)
        have f3 := fr (off + r * 2 + 1)
        have x0 := hW.cell a0 (by simp)
        have x1 := hW.cell a1 (by simp)
        have y0 := hW.cell b0 (by simp)
        have y1 := hW.cell b1 (by simp)
        have hgw := (hs4.own_lt g rfl).2
        have hgw2 : ¬ g = W.heap.size := by omega
        have hgw3 : ¬ W.heap.size = g := by omega
        clear a0 a1 b0 b1 s0 fr hs4
        have hend := (HF.out.2.1 _ hW).alloc (.cells #[.int .i64 x.id, .int .i64 x.fr] 41)
        have hfo : OnlyIn [] w (((((W.setCell ⟨g, off + q * 2, none⟩ (.int .i64 y.id)).setCell ⟨g, off + q * 2 + 1, none⟩ (.int .i64 y.fr)).setCell ⟨g, off + r * 2, none⟩ (.int .i64 x.id)).setCell ⟨g, off + r * 2 + 1, none⟩ (.int .i64 x.fr)).alloc (.cells #[.int .i64 x.id, .int .i64 x.fr] 41)) :=
          (((((HF.out.2.2.1.trans hW).setCell (.inr hgb) _).setCell (.inr hgb) _).setCell (.inr hgb) _).setCell (.inr hgb) _).alloc _
        have HE := Lib.hid (And.intro hend hfo)
        clear hend hfo
        by_cases hqr : q = r
        · have e := hxy hqr
          subst hqr
          subst e
          clear hxy y0 y1 f2 f3
          obtain ⟨xi, hxi⟩ : ∃ z, x.id = z := ⟨_, rfl⟩
          obtain ⟨xf, hxf⟩ : ∃ z, x.fr = z := ⟨_, rfl⟩
          rw [hxi, hxf] at HE
          rw [hxi] at x0
          rw [hxf] at x1
          clear hxi hxf
          go_wp2_with fail
          go_roundw
          case rel => exact ⟨k + 1, by omega, by go_num, Lib.hid ⟨_, HF.out.1, HE.out.1, HE.out.2⟩⟩
          case measure => simp [intOf]; omega
        · clear hxy
          obtain ⟨xi, hxi⟩ : ∃ z, x.id = z := ⟨_, rfl⟩
          obtain ⟨xf, hxf⟩ : ∃ z, x.fr = z := ⟨_, rfl⟩
          obtain ⟨yi, hyi⟩ : ∃ z, y.id = z := ⟨_, rfl⟩
          obtain ⟨yf, hyf⟩ : ∃ z, y.fr = z := ⟨_, rfl⟩
          rw [hxi, hxf, hyi, hyf] at HE
          rw [hxi] at x0
          rw [hxf] at x1
          rw [hyi] at y0
          rw [hyf] at y1
          clear hxi hxf hyi hyf
          go_wp2_with fail
          go_roundw
          case rel => exact ⟨k + 1, by omega, by go_num, Lib.hid ⟨_, HF.out.1, HE.out.1, HE.out.2⟩⟩
          case measure => simp [intOf]; omega
      · have HT := Lib.hid (And.intro hp (And.intro hs (And.intro hto hLn)))
        clear hp hs hto HK
        by_cases hlt : k < M
        · have dk : decide ((k : Int) < (M : Int)) = true := decide_eq_true (by omega)
          have dn : decide ((0 : Int) < (n : Int)) = false := decide_eq_false (by omega)
          obtain ⟨hp, hs, hto, hLn⟩ := HT.out
          have hq := hPlan_any wr A n c l (HR.out.1 _ hto) HR.out.2.1 hnc free want
          unfold PlanAns at hq
          rw [HP.out.1] at hq
          simp only at hq
          rw [HP.out.2.2.2.1] at hq
          clear hp hs hto hLn
          go_wp2_with fail
          refine hq.mono ?_
          clear hq
          rintro e w4 ⟨pv, rfl, p4, t4⟩
          obtain ⟨P, pc, rfl, hpc⟩ := p4.val
          have o4 := HT.out.2.2.1.trans t4
          have s4 := HT.out.2.1.only t4 (by simp)
          have hq := hVictim_any w4 A n c l (HR.out.1 _ o4) HR.out.2.1 hnc
          rw [HP.out.2.1] at hq
          clear t4
          go_wp2_with fail
          refine hq.mono ?_
          clear hq
          rintro e w5 ⟨rfl, t5⟩
          have o5 := o4.trans t5
          have s5 := s4.only t5 (by simp)
          have p5 := p4.only t5 (by simp)
          have hq := hVictim_any w5 A5 n c5 _ (Rd.of_sl s5) HT.out.2.2.2 hc5
          rw [(HP.out.2.2.1 _ HT.out.1).2] at hq
          clear t5 o4 s4 p4
          go_wp2_with fail
          refine hq.mono ?_
          clear hq
          rintro e w6 ⟨rfl, t6⟩
          have o6 := o5.trans t6
          have s6 := s5.only t6 (by simp)
          have p6 := p5.only t6 (by simp)
          have hq := plans_yes w6 A5 n c5 _ (Rd.of_sl s6) HT.out.2.2.2 hc5 free want (.slice P m pc) ids (by rw [HP.out.2.2.2.1]; exact Rd.of_sl p6) pf 0 (HP.out.2.2.1 _ HT.out.1).1
          have bx : (vx == vx) = true := by simp
          have be : (ve == ve) = true := by simp
          clear t6 o5 s5 p5
          go_wp2_with fail
          refine hq.mono ?_
          clear hq
          rintro e w7 ⟨rfl, t7⟩
          have o7 := o6.trans t7
          clear s6 p6 t7
          go_wp2_with fail
          go_ret
          exact ⟨rfl, o7⟩
        · have dk : decide ((k : Int) < (M : Int)) = false := decide_eq_false (by omega)
          obtain ⟨hp, hs, hto, hLn⟩ := HT.out
          have hq := hPlan_any wr A n c l (HR.out.1 _ hto) HR.out.2.1 hnc free want
          unfold PlanAns at hq
          rw [HP.out.1] at hq
          simp only at hq
          rw [HP.out.2.2.2.1] at hq
          clear hp hs hto hLn
          go_wp2_with fail
          refine hq.mono ?_
          clear hq
          rintro e w4 ⟨pv, rfl, p4, t4⟩
          obtain ⟨P, pc, rfl, hpc⟩ := p4.val
          have o4 := HT.out.2.2.1.trans t4
          have s4 := HT.out.2.1.only t4 (by simp)
          have hq := hVictim_any w4 A n c l (HR.out.1 _ o4) HR.out.2.1 hnc
          rw [HP.out.2.1] at hq
          clear t4
          go_wp2_with fail
          refine hq.mono ?_
          clear hq
          rintro e w5 ⟨rfl, t5⟩
          have o5 := o4.trans t5
          have s5 := s4.only t5 (by simp)
          have p5 := p4.only t5 (by simp)
          have hq := hVictim_any w5 A5 n c5 _ (Rd.of_sl s5) HT.out.2.2.2 hc5
          rw [(HP.out.2.2.1 _ HT.out.1).2] at hq
          clear t5 o4 s4 p4
          go_wp2_with fail
          refine hq.mono ?_
          clear hq
          rintro e w6 ⟨rfl, t6⟩
          have o6 := o5.trans t6
          have s6 := s5.only t6 (by simp)
          have p6 := p5.only t6 (by simp)
          have hq := plans_yes w6 A5 n c5 _ (Rd.of_sl s6) HT.out.2.2.2 hc5 free want (.slice P m pc) ids (by rw [HP.out.2.2.2.1]; exact Rd.of_sl p6) pf 0 (HP.out.2.2.1 _ HT.out.1).1
          have bx : (vx == vx) = true := by simp
          have be : (ve == ve) = true := by simp
          clear t6 o5 s5 p5
          go_wp2_with fail
          refine hq.mono ?_
          clear hq
          rintro e w7 ⟨rfl, t7⟩
          have o7 := o6.trans t7
          clear s6 p6 t7
          go_wp2_with fail
          go_ret
          exact ⟨rfl, o7⟩
  · rw [e] at hch
    clear hpa hpb hrd hrd' hrs hrs' hO e hn hb ha hsb hM
    go_enter Try.func5, Try.ntmps5
    go_wp2_with (first | (go_at_call 4; refine hkn.mono ?_; rintro e w1 ⟨rfl, o1⟩; clear hkn) | (go_at_call 19; refine (hch _ o1).mono ?_; rintro e w2 ⟨rfl, t2⟩; clear hch))
    go_ret
    exact ⟨rfl, o1.trans t2⟩
end Go.Proofs.Ytmbnmhcfafgnaaa
