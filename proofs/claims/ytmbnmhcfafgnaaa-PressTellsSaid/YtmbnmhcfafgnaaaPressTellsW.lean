/-
  Law 28: PressTells: the walk.
-/
import Derived.Test.YtmbnmhcfafgnaaaLaw28b
namespace Go.Proofs.Ytmbnmhcfafgnaaa
open Go.RowKit Go.Mine

set_option maxRecDepth 100000 in
set_option maxHeartbeats 4000000 in
theorem PressTells_walk {w : World} (x : Value × List Holder) (hx : Rd w 2 x.1 x.2.length (hcs x.2) ∧ (∀ a ∈ x.2, Holder.ok a) ∧ x.2.length ≤ maxLen) (free : Int) (_hf : -9223372036854775808 ≤ free ∧ free ≤ 9223372036854775807) (want : Int) (_hw : -9223372036854775808 ≤ want ∧ want ≤ 9223372036854775807) :
    Calls Try.prog 3 #[x.1, .int .i64 free, .int .i64 want] w fun e w' => e = .returned (.bool true) ∧ OnlyIn [] w w' := by
  obtain ⟨lv, l⟩ := x
  obtain ⟨hrd, -, hll⟩ := hx
  simp only at hrd hll ⊢
  simp only [maxLen] at hll
  obtain ⟨A, c, rfl, hnc⟩ : ∃ A c, lv = .slice A l.length c ∧ l.length ≤ c := by
    obtain ⟨-, A, c, h1, h2, -⟩ := hrd; exact ⟨A, c, h1, h2⟩
  obtain ⟨n, hn⟩ : ∃ n, l.length = n := ⟨_, rfl⟩
  rw [hn] at hrd hll hnc ⊢
  have haw := fun w => awake28 w
  obtain ⟨i0, hi0, hz0, hz1, hz2⟩ := info_parts Try.infoHold
  by_cases h80 : 80 < n
  · have hd : decide ((80 : Int) < (n : Int)) = true := decide_eq_true (by omega)
    clear hrd hn
    go_enter Try.func3, Try.ntmps3
    go_wp2_with (go_at_call 13; refine (haw _).mono ?_; rintro e w2 ⟨rfl, ht⟩)
    go_ret
    exact ⟨rfl, ht⟩
  have hd : decide ((80 : Int) < (n : Int)) = false := decide_eq_false (by omega)
  have HR := Lib.hid (And.intro (fun w1 (ho : OnlyIn [] w w1) => (show Rd w1 2 (.slice A n c) n (hcs l) from hrd.cells fun p u hp => ho.cell hp (by simp))) hn)
  obtain ⟨⟨vx, ve⟩, hv⟩ : ∃ z, victimF l = z := ⟨_, rfl⟩
  obtain ⟨⟨ids, pf, pe⟩, hp⟩ : ∃ z, planR l free want = z := ⟨_, rfl⟩
  have hil : ids.length ≤ 64 := by have := planR_ids_len (l := l) (free := free) (want := want); rw [hp] at this; exact this
  obtain ⟨m, hm⟩ : ∃ m, ids.length = m := ⟨_, rfl⟩
  rw [hm] at hil
  have HV := Lib.hid (And.intro hv (And.intro hp hm))
  clear hrd hn hv hp hm
  go_enter Try.func3, Try.ntmps3
  go_wp2_with (at_builtin; refine wpList_append_sl rfl _ _ 22 rfl w.heap.size 41 i0 _ 2 16 Try.underlying22 hi0 hz0 hz1 hz2 rfl (by decide) (.slice (some ⟨w.heap.size, 0, none⟩) 0 0) 0 [] rfl (sl_fresh w 41 2 w.heap.size (Nat.le_refl _)) (.slice A n c) n (hcs l) rfl (HR.out.1 _ ((OnlyIn.refl _ _).alloc _)) (hcs_one l) (by simp only [maxLen]; omega) (by omega) (by simp) ?_; intro v5 w1 hs5 hg5 hat5)
  rw [List.nil_append, Nat.zero_add] at hs5
  have o1 : OnlyIn [] w w1 := ((OnlyIn.refl [] w).alloc (.cells #[] 41)).grown hg5 (fun g hg => .inr (by simp [Value.ownBlock] at hg; omega))
  obtain ⟨A5, c5, rfl, hc5⟩ := hs5.val
  clear hg5 hat5
  have hq := hVictim_any w1 A5 n c5 l (Rd.of_sl hs5) HR.out.2 hc5
  rw [HV.out.1] at hq
  go_wp2_with fail
  refine hq.mono ?_
  rintro e w2 ⟨rfl, t2⟩
  have o2 := o1.trans t2
  have s2 := hs5.only t2 (by simp)
  clear hq o1 hs5 t2
  have hq := rVictim_any w2 A n c l (HR.out.1 _ o2) HR.out.2 hnc
  rw [HV.out.1] at hq
  go_wp2_with fail
  refine hq.mono ?_
  rintro e w3 ⟨rfl, t3⟩
  have o3 := o2.trans t3
  have s3 := s2.only t3 (by simp)
  clear hq o2 s2 t3
  have hq := hPlan_any w3 A5 n c5 l (Rd.of_sl s3) HR.out.2 hc5 free want
  unfold PlanAns at hq
  rw [HV.out.2.1] at hq
  simp only at hq
  rw [HV.out.2.2] at hq
  go_wp2_with fail
  refine hq.mono ?_
  rintro e w4 ⟨pv, rfl, p4, t4⟩
  obtain ⟨P, pc, rfl, hpc⟩ := p4.val
  have o4 := o3.trans t4
  have s4 := s3.only t4 (by simp)
  have hb3 := o3.size
  clear hq o3 s3 t4
  have hq := rPlan_any w4 A n c l (HR.out.1 _ o4) HR.out.2 hnc free want
  unfold PlanAns at hq
  rw [HV.out.2.1] at hq
  simp only at hq
  rw [HV.out.2.2] at hq
  go_wp2_with fail
  refine hq.mono ?_
  rintro e w5 ⟨qv, rfl, q5, t5⟩
  obtain ⟨Q, qc, rfl, hqc⟩ := q5.val
  have o5 := o4.trans t5
  have s5 := s4.only t5 (by simp)
  have p5 := p4.only t5 (by simp)
  clear hq o4 s4 p4 t5
  have hq := SameInts_any w5 (.slice P m pc) (.slice Q m qc) ids ids (by rw [HV.out.2.2]; exact Rd.of_sl p5) (by rw [HV.out.2.2]; exact Rd.of_sl q5) (by rw [HV.out.2.2]; omega) (by rw [HV.out.2.2]; omega)
  rw [decide_eq_true rfl] at hq
  have bx : (vx == vx) = true := by simp
  have be : (ve == ve) = true := by simp
  have bf : (pf == pf) = true := by simp
  have bp : (pe == pe) = true := by simp
  go_wp2_with fail
  refine hq.mono ?_
  rintro e w6 ⟨rfl, t6⟩
  have o6 := o5.trans t6
  have s6 := s5.only t6 (by simp)
  have p6 := p5.only t6 (by simp)
  clear hq o5 s5 p5 q5 t6
  obtain ⟨ch, hch⟩ : ∃ ch, checkF l = ch := ⟨_, rfl⟩
  obtain ⟨he, hhe⟩ : ∃ he, heldF l = he := ⟨_, rfl⟩
  have HC := Lib.hid (And.intro hch hhe)
  have bc : (ch == ch) = true := by simp
  have bh : (he == he) = true := by simp
  clear hch hhe
  have hq := hCheck_any w6 A5 n c5 l (Rd.of_sl s6) HR.out.2 hc5
  rw [HC.out.1] at hq
  go_wp2_with fail
  refine hq.mono ?_
  rintro e w7 ⟨rfl, t7⟩
  have o7 := o6.trans t7
  have s7 := s6.only t7 (by simp)
  have p7 := p6.only t7 (by simp)
  clear hq o6 s6 p6 t7
  have hq := rCheck_any w7 A n c l (HR.out.1 _ o7) HR.out.2 hnc
  rw [HC.out.1] at hq
  go_wp2_with fail
  refine hq.mono ?_
  rintro e w8 ⟨rfl, t8⟩
  have o8 := o7.trans t8
  have s8 := s7.only t8 (by simp)
  have p8 := p7.only t8 (by simp)
  clear hq o7 s7 p7 t8
  have hq := hHeld_any w8 A5 n c5 l (Rd.of_sl s8) HR.out.2 hc5
  rw [HC.out.2] at hq
  go_wp2_with fail
  refine hq.mono ?_
  rintro e w9 ⟨rfl, t9⟩
  have o9 := o8.trans t9
  have s9 := s8.only t9 (by simp)
  have p9 := p8.only t9 (by simp)
  clear hq o8 s8 p8 t9
  have hq := rHeld_any w9 A n c l (HR.out.1 _ o9) HR.out.2 hnc
  rw [HC.out.2] at hq
  go_wp2_with fail
  refine hq.mono ?_
  rintro e w10 ⟨rfl, t10⟩
  have o10 := o9.trans t10
  have s10 := s9.only t10 (by simp)
  have p10 := p9.only t10 (by simp)
  clear hq o9 s9 p9 t10
  have hq := OverInts_any w10 (.slice P m pc) m _ w3.heap.size p10 (by omega)
  go_wp2_with fail
  refine hq.mono ?_
  rintro e w11 ⟨rfl, t11⟩
  have o11 := o10.then t11 (fun k hk => .inr (by
    simp only [Option.mem_toList] at hk
    have := (p10.own_lt k hk).1
    omega))
  have s11 := s10.only t11 (fun g hg hm => by
    simp only [Option.mem_toList] at hm
    exact sl_apart s10 p10 hg hm)
  clear hq o10 s10 p10 t11
  have hq := same_yes w11 A5 A n c5 c l (Rd.of_sl s11) (HR.out.1 _ o11) HR.out.2 hc5 hnc (by omega)
  go_wp2_with fail
  refine hq.mono ?_
  rintro e w12 ⟨rfl, t12⟩
  have o12 := o11.trans t12
  clear hq o11 s11 t12
  go_wp2_with fail
  refine (haw _).mono ?_
  rintro e w13 ⟨rfl, t13⟩
  have o13 := o12.trans t13
  clear o12 t13 haw
  go_wp2_with fail
  go_ret
  exact ⟨rfl, o13⟩
end Go.Proofs.Ytmbnmhcfafgnaaa
