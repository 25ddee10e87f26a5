/-
  Law 28: PressEnough: the walk.
-/
import Derived.Test.YtmbnmhcfafgnaaaLaw28b
namespace Go.Mine
open Go.RowKit
theorem planF_mem {l : List Holder} {free want : Int} {x : Holder} (h : x ∈ (planF (vict l) free want).1) : x ∈ l ∧ 0 < x.fr := by
  rw [planF_take] at h
  exact vict_mem.1 (List.mem_of_mem_take h)
theorem sumF_vict {l : List Holder} (hO : OkH l) : sumF (vict l) = sumF l := by
  rw [sumF_perm (vict_perm l), sumF_filter l (fun h hh => (hO.2.1 h hh).2.1)]
end Go.Mine
namespace Go.Proofs.Ytmbnmhcfafgnaaa
open Go.RowKit Go.Mine

set_option maxRecDepth 100000 in
/-- Two numbers picked, and a plan. -/
theorem pick28 (x : Int) (hx : -9223372036854775808 ≤ x ∧ x ≤ 9223372036854775807) : ∃ f : Int, 0 ≤ f ∧ f ≤ 10000 ∧ ∀ w, Calls Try.prog 28 #[.int .i64 x, .int .i64 10001] w fun e w' => e = .returned (.int .i64 f) ∧ w = w' := by
  refine ⟨x % 10001, Int.emod_nonneg _ (by omega), by have := Int.emod_lt_of_pos x (show (0 : Int) < 10001 by omega); omega, fun w => Pick_any x 10001 w (by omega) (by omega) hx.1 hx.2⟩

set_option maxRecDepth 100000 in
set_option maxHeartbeats 4000000 in
theorem PressEnough_walk {w : World} (x : Value × List Holder) (hx : Rd w 2 x.1 x.2.length (hcs x.2) ∧ (∀ a ∈ x.2, Holder.ok a) ∧ x.2.length ≤ maxLen) (a : Int) (ha : -9223372036854775808 ≤ a ∧ a ≤ 9223372036854775807) (b : Int) (hb : -9223372036854775808 ≤ b ∧ b ≤ 9223372036854775807) :
    Calls Try.prog 7 #[x.1, .int .i64 a, .int .i64 b] w fun e w' => e = .returned (.bool true) ∧ OnlyIn [] w w' := by
  obtain ⟨lv, l⟩ := x
  obtain ⟨hrd, -, hll⟩ := hx
  simp only at hrd hll ⊢
  simp only [maxLen] at hll
  obtain ⟨A, c, rfl, hnc⟩ : ∃ A c, lv = .slice A l.length c ∧ l.length ≤ c := by
    obtain ⟨-, A, c, h1, h2, -⟩ := hrd; exact ⟨A, c, h1, h2⟩
  obtain ⟨n, hn⟩ : ∃ n, l.length = n := ⟨_, rfl⟩
  rw [hn] at hrd hll hnc ⊢
  have hkn := known28 w
  have hrd' := fun w1 (ho : OnlyIn [] w w1) => (show Rd w1 2 (.slice A n c) n (hcs l) from hrd.cells fun p u hp => ho.cell hp (by simp))
  have hch := fun w1 (ho : OnlyIn [] w w1) => hCheck_any w1 A n c l (hrd' w1 ho) hn hnc
  obtain ⟨free, hf1, hf2, hpa⟩ := pick28 a ha
  obtain ⟨want, hw1, hw2, hpb⟩ := pick28 b hb
  rcases checkF_cases l with ⟨hO, e⟩ | ⟨hO, e⟩
  · rw [e] at hch
    have hn64 : n ≤ 64 := by rw [← hn]; exact hO.1
    have hd : decide ((64 : Int) < (n : Int)) = false := decide_eq_false (by omega)
    have hok : PlanOk l free want := ⟨hO, hf1, hf2, hw1, hw2⟩
    obtain ⟨v, pf, hpl⟩ : ∃ v pf, planF (vict l) free want = (v, pf) := ⟨_, _, rfl⟩
    have hpr : planR l free want = (v.map (·.id), pf, 0) := by unfold planR; rw [if_pos hok, hpl]
    have hsum : pf = free + sumF v := by have := planF_sum (vict l) free want; rw [hpl] at this; exact this
    have hend : want ≤ pf ∨ v = vict l := by have := planF_end (vict l) free want; rw [hpl] at this; exact this
    have hfew : ∀ i, i < v.length → free + sumF (v.take i) < want := by have := planF_few (vict l) free want; rw [hpl] at this; exact this
    have hmem : ∀ x ∈ v, x ∈ l ∧ 0 < x.fr := fun x hx => planF_mem (free := free) (want := want) (by rw [hpl]; exact hx)
    have hvl : v.length ≤ 64 := by have := planR_ids_len (l := l) (free := free) (want := want); rw [hpr] at this; simpa using this
    have hsb : ∀ k, 0 ≤ sumF (v.take k) ∧ sumF (v.take k) ≤ 64 * 64 := fun k => by
      have := sumF_bound (l := v.take k) (fun x hx => by have := hmem x (List.mem_of_mem_take hx); exact ⟨by omega, (hO.2.1 x this.1).2.2⟩)
      rw [List.length_take] at this
      omega
    have hheld : heldF l = sumF l := by unfold heldF; rw [if_pos hO]
    have hlb := sumF_bound (l := l) (fun x hx => (hO.2.1 x hx).2)
    have hvs := sumF_vict hO
    obtain ⟨m, hm⟩ : ∃ m, v.length = m := ⟨_, rfl⟩
    have HP := Lib.hid (And.intro hsum (And.intro hend (And.intro hfew (And.intro hmem (And.intro hsb (And.intro hheld (And.intro hlb (And.intro hvs (And.intro hm (And.intro hO hpr))))))))))
    have HR := Lib.hid (And.intro hrd' hn)
    rw [hm] at hvl
    rw [hn] at hlb
    clear e hrd hrd' hpl hpr hok hsum hend hfew hmem hsb hheld hvs hm hn ha hb hO
    go_enter Try.func7, Try.ntmps7
    go_wp2_with (first | (go_at_call 4; refine hkn.mono ?_; rintro e w1 ⟨rfl, o1⟩; clear hkn) | (go_at_call 19; refine (hch _ o1).mono ?_; rintro e w2 ⟨rfl, t2⟩; clear hch) | (go_at_call 28; refine (hpa _).mono ?_; rintro e w' ⟨rfl, rfl⟩; clear hpa) | (go_at_call 28; refine (hpb _).mono ?_; rintro e w' ⟨rfl, rfl⟩; clear hpb) | (go_at_call 16; fail))
    have o2 := o1.trans t2
    have hq := hPlan_any w2 A n c l (HR.out.1 _ o2) HR.out.2 hnc free want
    unfold PlanAns at hq
    rw [HP.out.2.2.2.2.2.2.2.2.2.2] at hq
    simp only [List.length_map] at hq
    rw [HP.out.2.2.2.2.2.2.2.2.1] at hq
    refine hq.mono ?_
    rintro e w3 ⟨pv, rfl, p3, t3⟩
    obtain ⟨P, pc, rfl, hpc⟩ := p3.val
    have o3 := o2.trans t3
    have HO := Lib.hid (And.intro o3 p3)
    clear hq t2 o1 o2 t3 p3 o3
    go_wp2_with fail
    go_loopw [11, 12, 13] (fun s i _ wr => ∃ k : Nat, k ≤ m ∧ s = .int .i64 (free + sumF (v.take k)) ∧ i = .int .i64 (k : Int) ∧ w3 = wr) (fun _ i _ _ => m - (intOf i).toNat)
    case atStart => exact ⟨0, by omega, by rw [List.take_zero, sumF_nil, Int.add_zero], rfl, rfl⟩
    case round =>
      obtain ⟨k, hk, rfl, rfl, rfl⟩ := hrel
      obtain ⟨hsum, hend, hfew, hmem, hsb, hheld, -, hvs, hm, hO, -⟩ := HP.out
      by_cases hlt : k < m
      · have hkv : k < v.length := by omega
        obtain ⟨g, off, rfl, a0⟩ := rd_int (Rd.of_sl HO.out.2) (by rw [List.length_map, hm]) hlt
        obtain ⟨x, hx⟩ : ∃ x, v[k]'hkv = x := ⟨_, rfl⟩
        rw [List.getElem_map, hx] at a0
        have hxm := hmem x (by rw [← hx]; exact List.getElem_mem hkv)
        have hxb := (hO.2.1 x hxm.1).2
        have hfr := frames_any w3 A n c l (HR.out.1 _ HO.out.1) HR.out.2 hnc (by omega) x.id
        rw [framesF_hit hO hxm.1] at hfr
        have hst := sumF_take hkv
        rw [hx] at hst
        have hs1 := hfew k hkv
        have hs2 := hsb k
        obtain ⟨xi, hxi⟩ : ∃ z, x.id = z := ⟨_, rfl⟩
        obtain ⟨xf, hxf⟩ : ∃ z, x.fr = z := ⟨_, rfl⟩
        rw [hxi] at a0 hfr
        rw [hxf] at hfr hst hxm hxb
        obtain ⟨s, hs⟩ : ∃ s, sumF (v.take k) = s := ⟨_, rfl⟩
        rw [hs] at hst hs1 hs2 ⊢
        obtain ⟨t, ht⟩ : ∃ t, free + s = t := ⟨_, rfl⟩
        have hw : IntKind.i64.wrap (t + xf) = t + xf := by rw [IntKind.wrap_i64]; omega
        have d1 : decide (xf < 1) = false := decide_eq_false (by omega)
        have d2 : decide (want ≤ t) = false := decide_eq_false (by omega)
        have HS := Lib.hid (And.intro hst ht)
        rw [ht]
        clear hsum hend hfew hmem hsb hheld hvs hm hO hst hs hs1 hs2 hx hxi hxf hkv hxm hxb ht
        go_wp2_with (go_at_call 29; refine hfr.mono ?_; rintro e w' ⟨rfl, rfl⟩)
        go_roundw
        case rel => exact ⟨k + 1, by omega, by rw [HS.out.1, ← HS.out.2]; go_num, by go_num, by trivial⟩
        case measure => simp [intOf]; omega
      · obtain rfl : m = k := by omega
        have htk : v.take m = v := List.take_of_length_le (by omega)
        rw [htk, ← hsum]
        have bp : (pf == pf) = true := by simp
        have hq := hHeld_any w3 A n c l (HR.out.1 _ HO.out.1) HR.out.2 hnc
        rw [hheld] at hq
        obtain ⟨s, hs⟩ : ∃ s, sumF l = s := ⟨_, rfl⟩
        rw [hs] at hq
        by_cases hw : want ≤ pf
        · have d1 : decide (want ≤ pf) = true := decide_eq_true hw
          have HT := Lib.hid HO.out.1
          clear hsum hend hfew hmem hsb hheld hvs hm hO htk hs hq
          go_wp2_with fail
          go_ret
          exact ⟨rfl, HT.out⟩
        · have d1 : decide (want ≤ pf) = false := decide_eq_false hw
          have hps : pf = free + s := by
            rcases hend with h | h
            · exact absurd h hw
            · rw [hsum, h, hvs, hs]
          rw [hs] at hlb
          have hww : IntKind.i64.wrap (free + s) = free + s := by rw [IntKind.wrap_i64]; omega
          have bq : (pf == free + s) = true := by simp [hps]
          have HT := Lib.hid HO.out.1
          clear hsum hend hfew hmem hsb hheld hvs hm hO htk hs hps
          go_wp2_with (go_at_call 21; refine hq.mono ?_; rintro e w4 ⟨rfl, t4⟩)
          go_ret
          exact ⟨rfl, HT.out.trans t4⟩
  · rw [e] at hch
    clear hpa hpb hrd hrd' hO e hn hb ha
    go_enter Try.func7, Try.ntmps7
    go_wp2_with (first | (go_at_call 4; refine hkn.mono ?_; rintro e w1 ⟨rfl, o1⟩; clear hkn) | (go_at_call 19; refine (hch _ o1).mono ?_; rintro e w2 ⟨rfl, t2⟩; clear hch))
    go_ret
    exact ⟨rfl, o1.trans t2⟩
end Go.Proofs.Ytmbnmhcfafgnaaa
