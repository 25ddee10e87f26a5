/-
  Law 28: PressOrder: the walk.
-/
import Derived.Test.YtmbnmhcfafgnaaaPressEnoughW
import Derived.BigQuiet
namespace Go.Mine
open Go.RowKit
/-- What stays goes not ahead of the last one that goes. -/
theorem stays {l v : List Holder} (hO : OkH l) {m : Nat} (hv : v = (vict l).take m) {z : Holder} (hz : z ∈ v) (hl : ∀ y ∈ v, y = z ∨ ltH y z = true) {x : Holder} (hx : x ∈ l) (hn : x.id ∉ v.map (·.id)) :
    ¬ (z.fr < x.fr) ∧ ¬ (x.fr = z.fr ∧ x.id < z.id) := by
  subst hv
  have hzv := vict_mem.1 (List.mem_of_mem_take hz)
  by_cases hp : 0 < x.fr
  · have hxv : x ∈ vict l := vict_mem.2 ⟨hx, hp⟩
    rw [← List.take_append_drop m (vict l), List.mem_append] at hxv
    rcases hxv with h | h
    · exact absurd (List.mem_map.2 ⟨x, h, rfl⟩) hn
    · have hs := vict_sorted hO
      rw [← List.take_append_drop m (vict l), List.pairwise_append] at hs
      have := hs.2.2 z hz x h
      rw [ltH_iff] at this
      omega
  · omega
end Go.Mine
namespace Go.Proofs.Ytmbnmhcfafgnaaa
open Go.RowKit Go.Mine

set_option maxRecDepth 100000 in
theorem frames_q (W : World) (A : Option Addr) (n c : Nat) (l : List Holder) (h : Rd W 2 (.slice A n c) n (hcs l)) (hn : l.length = n) (hnc : n ≤ c) (hb : n ≤ 1000000000) (hO : OkH l) {x : Holder} (hx : x ∈ l) (q : Nat) :
    Calls Try.prog 29 #[.slice A n c, .int .i64 x.id] (W.drewN q) fun e w' => e = .returned (.int .i64 x.fr) ∧ ∃ k, w' = (W.drewN q).drewN k := by
  have hf := frames_any (W.drewN q) A n c l (h.drewN q) hn hnc hb x.id
  rw [framesF_hit hO hx] at hf
  exact hf.mono fun e w' ⟨he, hw⟩ => ⟨he, 0, by rw [← hw]; rfl⟩

set_option maxRecDepth 100000 in
set_option maxHeartbeats 8000000 in
theorem PressOrder_walk {w : World} (x : Value × List Holder) (hx : Rd w 2 x.1 x.2.length (hcs x.2) ∧ (∀ a ∈ x.2, Holder.ok a) ∧ x.2.length ≤ maxLen) (a : Int) (ha : -9223372036854775808 ≤ a ∧ a ≤ 9223372036854775807) (b : Int) (hb : -9223372036854775808 ≤ b ∧ b ≤ 9223372036854775807) :
    Calls Try.prog 6 #[x.1, .int .i64 a, .int .i64 b] w fun e w' => e = .returned (.bool true) ∧ OnlyIn [] w w' := by
  obtain ⟨lv, l⟩ := x
  obtain ⟨hrd, -, hll⟩ := hx
  simp only at hrd hll ⊢
  simp only [maxLen] at hll
  obtain ⟨A, c, rfl, hnc⟩ : ∃ A c, lv = .slice A l.length c ∧ l.length ≤ c := by
    obtain ⟨-, A, c, h1, h2, -⟩ := hrd; exact ⟨A, c, h1, h2⟩
  obtain ⟨n, hn⟩ : ∃ n, l.length = n := ⟨_, rfl⟩
  rw [hn] at hrd hll hnc ⊢
  have hkn := awake28 w
  have hrd' := fun w1 (ho : OnlyIn [] w w1) => (show Rd w1 2 (.slice A n c) n (hcs l) from hrd.cells fun p u hp => ho.cell hp (by simp))
  have hch := fun w1 (ho : OnlyIn [] w w1) => hCheck_any w1 A n c l (hrd' w1 ho) hn hnc
  obtain ⟨free, hf1, hf2, hpa⟩ := pick28 a ha
  obtain ⟨want, hw1, hw2, hpb⟩ := pick28 b hb
  rcases checkF_cases l with ⟨hO, e⟩ | ⟨hO, e⟩
  · rw [e] at hch
    have hn64 : n ≤ 64 := by rw [← hn]; exact hO.1
    have hd : decide ((64 : Int) < (n : Int)) = false := decide_eq_false (by omega)
    have hok : PlanOk l free want := ⟨hO, hf1, hf2, hw1, hw2⟩
    obtain ⟨v, pf, hpl⟩ : ∃ v pf, planF (vict l) free want = (v, pf) := ⟨_, _, rfl⟩
    have hpr : planR l free want = (v.map (·.id), pf, 0) := by unfold planR; rw [if_pos hok, hpl]
    have htk : v = (vict l).take v.length := by have := planF_take (vict l) free want; rw [hpl] at this; exact this
    have hmem : ∀ x ∈ v, x ∈ l ∧ 0 < x.fr := fun x hx => planF_mem (free := free) (want := want) (by rw [hpl]; exact hx)
    have hsv : v.Pairwise fun a b => ltH a b = true := by rw [htk]; exact (vict_sorted hO).sublist (List.take_sublist _ _)
    have hvn : v.length ≤ n := by
      have h1 := vict_length l
      have h2 := congrArg List.length htk
      rw [List.length_take] at h2
      omega
    obtain ⟨m, hm⟩ : ∃ m, v.length = m := ⟨_, rfl⟩
    have HP := Lib.hid (And.intro htk (And.intro hmem (And.intro hsv (And.intro hm (And.intro hO hpr)))))
    have HR := Lib.hid (And.intro hrd' hn)
    rw [hm] at hvn
    have hdm : decide ((n : Int) < (m : Int)) = false := decide_eq_false (by omega)
    have hdn : decide (n < m) = false := decide_eq_false (by omega)
    have hdp : ¬ n < m := by omega
    clear e hrd hrd' hpl hpr hok htk hmem hsv hm hn ha hb hO
    go_enter Try.func6, Try.ntmps6
    go_wp2_with (first | (go_at_call 13; refine hkn.mono ?_; rintro e w1 ⟨rfl, o1⟩; clear hkn) | (go_at_call 19; refine (hch _ o1).mono ?_; rintro e w2 ⟨rfl, t2⟩; clear hch) | (go_at_call 28; refine (hpa _).mono ?_; rintro e w' ⟨rfl, rfl⟩; clear hpa) | (go_at_call 28; refine (hpb _).mono ?_; rintro e w' ⟨rfl, rfl⟩; clear hpb) | (go_at_call 16; fail))
    have o2 := o1.trans t2
    have hq := hPlan_any w2 A n c l (HR.out.1 _ o2) HR.out.2 hnc free want
    unfold PlanAns at hq
    rw [HP.out.2.2.2.2.2] at hq
    simp only [List.length_map] at hq
    rw [HP.out.2.2.2.1] at hq
    refine hq.mono ?_
    rintro e w3 ⟨pv, rfl, p3, t3⟩
    obtain ⟨P, pc, rfl, hpc⟩ := p3.val
    have o3 := o2.trans t3
    have HO := Lib.hid (And.intro o3 p3)
    have hcell : ∀ wr, OnlyIn [] w3 wr → ∀ k x, v[k]? = some x → ∃ g off, P = some ⟨g, off, none⟩ ∧ wr.cell? ⟨g, off + k, none⟩ = some (.int .i64 x.id) := fun wr ho k x hx => by
      have hk := (List.getElem?_eq_some_iff.1 hx).1
      obtain ⟨g, off, h1, h2⟩ := rd_int (Rd.of_sl (p3.only ho (by simp))) (by rw [List.length_map, HP.out.2.2.2.1]) (k := k) (by rw [← HP.out.2.2.2.1]; exact hk)
      rw [List.getElem_map] at h2
      rw [List.getElem?_eq_getElem hk] at hx
      injection hx with hx
      rw [hx] at h2
      exact ⟨g, off, h1, h2⟩
    have HCE := Lib.hid hcell
    clear hq t2 o1 o2 t3 p3 o3 hcell
    go_wp2_with fail
    go_loopw [11, 12] (fun i _ wr => ∃ k : Nat, k ≤ m ∧ i = .int .i64 (k : Int) ∧ OnlyIn [] w3 wr) (fun i _ _ => m - (intOf i).toNat)
    case atStart => exact ⟨0, by omega, rfl, OnlyIn.refl _ _⟩
    case round =>
      obtain ⟨k, hk, rfl, hto⟩ := hrel
      obtain ⟨htk, hmem, hsv, hm, hO, -⟩ := HP.out
      by_cases hlt : k < m
      · have hkv : k < v.length := by omega
        obtain ⟨x, hx⟩ : ∃ x, v[k]? = some x := ⟨_, List.getElem?_eq_getElem hkv⟩
        have hxm := hmem x (List.mem_of_getElem? hx)
        obtain ⟨g, off, rfl, a0⟩ := HCE.out wr hto k x hx
        have hfr := frames_any wr A n c l (HR.out.1 _ (HO.out.1.trans hto)) HR.out.2 hnc (by omega) x.id
        rw [framesF_hit hO hxm.1] at hfr
        by_cases hk0 : k = 0
        · subst hk0
          have hvi := isVictim_yes wr A n c l (HR.out.1 _ (HO.out.1.trans hto)) HR.out.2 hnc x.id (by
            have hv0 : (vict l)[0]? = some x := by
              rw [htk] at hx
              rw [List.getElem?_take_of_lt (by omega)] at hx
              exact hx
            have : ∃ r, vict l = x :: r := by
              cases hv : vict l with
              | nil => rw [hv] at hv0; cases hv0
              | cons y r => rw [hv] at hv0; injection hv0 with h; exact ⟨r, by rw [h]⟩
            obtain ⟨r, hr⟩ := this
            unfold victimF
            rw [if_pos hO, hr])
          obtain ⟨xi, hxi⟩ : ∃ z, x.id = z := ⟨_, rfl⟩
          obtain ⟨xf, hxf⟩ : ∃ z, x.fr = z := ⟨_, rfl⟩
          rw [hxi] at a0 hfr hvi
          rw [hxf] at hfr
          have d1 : decide (xf < 1) = false := decide_eq_false (by have := hxm.2; omega)
          have HT := Lib.hid hto
          clear htk hmem hsv hm hO hxm hx hkv hxi hxf hto
          simp only [Int.natCast_zero, Nat.add_zero] at a0 ⊢
          go_wp2_with (first | (go_at_call 29; refine hfr.mono ?_; rintro e w4 ⟨rfl, rfl⟩; clear hfr) | (go_at_call 30; refine hvi.mono ?_; rintro e w5 ⟨rfl, t5⟩; clear hvi))
          go_quiet (fail)
          go_wp2_with fail
          go_roundw
          case rel => exact ⟨1, by omega, by go_num, (HT.out.trans t5).drewN _⟩
          case measure => simp [intOf]; omega
        · have hkv' : k - 1 < v.length := by omega
          obtain ⟨y, hy⟩ : ∃ y, v[k - 1]? = some y := ⟨_, List.getElem?_eq_getElem hkv'⟩
          have hym := hmem y (List.mem_of_getElem? hy)
          obtain ⟨g', off', he, b0⟩ := HCE.out wr hto (k - 1) y hy
          injection he with he
          injection he with e1 e2 _
          subst e1 e2
          have hfq := fun q => frames_q wr A n c l (HR.out.1 _ (HO.out.1.trans hto)) HR.out.2 hnc (by omega) hO hym.1 q
          have hlt2 : ltH y x = true := by
            have := List.pairwise_iff_getElem.1 hsv (k - 1) k hkv' hkv (by omega)
            rw [List.getElem?_eq_getElem hkv] at hx
            rw [List.getElem?_eq_getElem hkv'] at hy
            injection hx with hx
            injection hy with hy
            rw [hx, hy] at this
            exact this
          rw [ltH_iff] at hlt2
          obtain ⟨j, hj⟩ : ∃ j, k - 1 = j := ⟨_, rfl⟩
          obtain rfl : k = j + 1 := by omega
          rw [hj] at b0
          obtain ⟨xi, hxi⟩ : ∃ z, x.id = z := ⟨_, rfl⟩
          obtain ⟨xf, hxf⟩ : ∃ z, x.fr = z := ⟨_, rfl⟩
          obtain ⟨yi, hyi⟩ : ∃ z, y.id = z := ⟨_, rfl⟩
          obtain ⟨yf, hyf⟩ : ∃ z, y.fr = z := ⟨_, rfl⟩
          rw [hxi] at a0 hfr hlt2
          rw [hxf] at hfr hlt2
          rw [hyi] at b0 hfq hlt2
          rw [hyf] at hfq hlt2
          have d1 : decide (xf < 1) = false := decide_eq_false (by have := hxm.2; omega)
          have d2 : (((j + 1 : Nat) : Int) == 0) = false := by simp; omega
          have d3 : decide ((0 : Int) < ((j + 1 : Nat) : Int)) = true := decide_eq_true (by omega)
          have d3n : decide (0 < j + 1) = true := decide_eq_true (by omega)
          have d3p : 0 < j + 1 := by omega
          have hwj : IntKind.i64.wrap (((j + 1 : Nat) : Int) - 1) = (j : Int) := by rw [IntKind.wrap_i64]; omega
          have hsj : ((j + 1 : Nat) : Int) - 1 = (j : Int) := by omega
          have hjm : j < m := by omega
          have d4 : decide (yf < xf) = false := decide_eq_false (by omega)
          obtain ⟨K1, hK1⟩ : ∃ K1, j + 1 = K1 := ⟨_, rfl⟩
          rw [hK1] at a0 d2 d3 d3n d3p hwj hsj hlt ⊢
          have HT := Lib.hid (And.intro hto hK1)
          clear htk hmem hsv hm hO hxm hx hkv hxi hxf hto hkv' hy hym hyi hyf hj hK1 hk hk0
          by_cases hyx : yf = xf
          · subst hyx
            have d5 : (yf == yf) = true := by simp
            have d6 : decide (xi ≤ yi) = false := decide_eq_false (by omega)
            clear hlt2
            go_wp2_with (go_at_call 29; refine hfr.mono ?_; rintro e w4 ⟨rfl, rfl⟩; clear hfr)
            go_quiet ((go_at_call 29; exact Calls.quiet_of (hfq _)))
            go_wp2_with fail
            go_roundw
            case rel => exact ⟨K1 + 1, by omega, by go_num, HT.out.1.drewN _⟩
            case measure => simp [intOf]; omega
          · have d5 : (yf == xf) = false := by simpa using hyx
            clear hlt2
            go_wp2_with (go_at_call 29; refine hfr.mono ?_; rintro e w4 ⟨rfl, rfl⟩; clear hfr)
            go_quiet ((go_at_call 29; exact Calls.quiet_of (hfq _)))
            go_wp2_with fail
            go_roundw
            case rel => exact ⟨K1 + 1, by omega, by go_num, HT.out.1.drewN _⟩
            case measure => simp [intOf]; omega
      · obtain rfl : m = k := by omega
        by_cases hm0 : m = 0
        · subst hm0
          have HT := Lib.hid (HO.out.1.trans hto)
          clear htk hmem hsv hm hO hto
          go_wp2_with fail
          go_ret
          exact ⟨rfl, HT.out⟩
        · have hbm : ((m : Int) == 0) = false := by simp; omega
          have hbm2 : ¬ (m : Int) = 0 := by omega
          obtain ⟨j, hj⟩ : ∃ j, m = j + 1 := ⟨m - 1, by omega⟩
          have hjv : j < v.length := by omega
          obtain ⟨z, hz⟩ : ∃ z, v[j]? = some z := ⟨_, List.getElem?_eq_getElem hjv⟩
          have hzm := hmem z (List.mem_of_getElem? hz)
          obtain ⟨g, off, rfl, b0⟩ := HCE.out wr hto j z hz
          have hfr := frames_any wr A n c l (HR.out.1 _ (HO.out.1.trans hto)) HR.out.2 hnc (by omega) z.id
          rw [framesF_hit hO hzm.1] at hfr
          have hlast : ∀ y ∈ v, y = z ∨ ltH y z = true := fun y hy => by
            obtain ⟨q, hq, rfl⟩ := List.mem_iff_getElem.1 hy
            rw [List.getElem?_eq_getElem hjv] at hz
            injection hz with hz
            by_cases hqj : q = j
            · subst hqj; exact .inl hz
            · right
              have := List.pairwise_iff_getElem.1 hsv q j hq hjv (by omega)
              rw [hz] at this
              exact this
          have hstay : ∀ x ∈ l, x.id ∉ v.map (·.id) → ¬ (z.fr < x.fr) ∧ ¬ (x.fr = z.fr ∧ x.id < z.id) := fun x hx hn => stays hO htk (List.mem_of_getElem? hz) hlast hx hn
          obtain ⟨zi, hzi⟩ : ∃ q, z.id = q := ⟨_, rfl⟩
          obtain ⟨zf, hzf⟩ : ∃ q, z.fr = q := ⟨_, rfl⟩
          rw [hzi] at b0 hfr hstay
          rw [hzf] at hfr hstay
          have hwj : IntKind.i64.wrap ((m : Int) - 1) = (j : Int) := by rw [IntKind.wrap_i64]; omega
          have hsj : (m : Int) - 1 = (j : Int) := by omega
          have hjm : j < m := by omega
          have HT := Lib.hid (And.intro hto (And.intro hstay (And.intro hm b0)))
          clear htk hmem hsv hm hO hto hj hz hzm hlast hstay hzi hzf hjv
          go_wp2_with (go_at_call 29; refine hfr.mono ?_; rintro e w4 ⟨rfl, rfl⟩; clear hfr)
          clear b0
          go_loopw [14, 15, 16] (fun i _ _ w2 => ∃ k : Nat, k ≤ n ∧ i = .int .i64 (k : Int) ∧ OnlyIn [] wr w2) (fun i _ _ _ => n - (intOf i).toNat)
          case atStart => exact ⟨0, by omega, rfl, OnlyIn.refl _ _⟩
          case round =>
            obtain ⟨k, hk2, rfl, ht2⟩ := hrel
            have hov := (HO.out.1.trans HT.out.1).trans ht2
            have hov3 := HT.out.1.trans ht2
            by_cases hlt2 : k < n
            · have hkl : k < l.length := by rw [HR.out.2]; exact hlt2
              obtain ⟨x, hx⟩ : ∃ x, l[k]'hkl = x := ⟨_, rfl⟩
              have hxl : x ∈ l := by rw [← hx]; exact List.getElem_mem hkl
              obtain ⟨gl_, ol, hAe, a0, a1⟩ := rd_hold (HR.out.1 wr hov) HR.out.2 (k := k) (x := x) (by rw [List.getElem?_eq_getElem hkl, hx])
              subst hAe
              have hst := HT.out.2.1 x hxl
              obtain ⟨xi, hxi⟩ : ∃ z, x.id = z := ⟨_, rfl⟩
              obtain ⟨xf, hxf⟩ : ∃ z, x.fr = z := ⟨_, rfl⟩
              rw [hxi] at a0 hst
              rw [hxf] at a1 hst
              have HX := Lib.hid (And.intro ht2 (And.intro hov3 hst))
              clear hx hkl hxl hxi hxf hst ht2 hov hov3
              go_wp2_with fail
              go_loopw [15, 16] (fun gs q w5 => ∃ q' : Nat, q' ≤ m ∧ gs = .bool (decide (xi ∈ (v.take q').map (·.id))) ∧ q = .int .i64 (q' : Int) ∧ OnlyIn [] wr w5) (fun _ q _ => m - (intOf q).toNat)
              case atStart => exact ⟨0, by omega, by simp, rfl, OnlyIn.refl _ _⟩
              case round =>
                obtain ⟨q, hq, rfl, rfl, ht3⟩ := hrel
                have a0 := ht3.cell a0 (by simp)
                have a1 := ht3.cell a1 (by simp)
                by_cases hqm : q < m
                · have hqv : q < v.length := by rw [HT.out.2.2.1]; exact hqm
                  obtain ⟨y, hy⟩ : ∃ y, v[q]? = some y := ⟨_, List.getElem?_eq_getElem hqv⟩
                  obtain ⟨g', off', he, b1⟩ := HCE.out wr (HX.out.2.1.trans ht3) q y hy
                  injection he with he
                  injection he with e1 e2 _
                  subst e1 e2
                  have htq := take_snoc v hqv
                  rw [show v[q]'hqv = y from by rw [List.getElem?_eq_getElem hqv] at hy; injection hy] at htq
                  obtain ⟨yi, hyi⟩ : ∃ z, y.id = z := ⟨_, rfl⟩
                  rw [hyi] at b1
                  have hstep : decide (xi ∈ (v.take (q + 1)).map (·.id)) = (decide (xi ∈ (v.take q).map (·.id)) || yi == xi) := by
                    rw [htq, List.map_append, List.map_cons, List.map_nil, hyi]
                    simp only [List.mem_append, List.mem_singleton, Bool.decide_or]
                    congr 1
                    by_cases e : xi = yi
                    · subst e; simp
                    · rw [decide_eq_false e]; symm; simp only [beq_eq_false_iff_ne, ne_eq]; exact fun h => e h.symm
                  obtain ⟨t, ht⟩ : ∃ t, decide (xi ∈ (v.take q).map (·.id)) = t := ⟨_, rfl⟩
                  rw [ht] at hstep ⊢
                  have HS := Lib.hid (And.intro hstep ht3)
                  clear htq hyi hy hqv hstep ht3 ht
                  cases t with
                  | true =>
                    go_wp2_with fail
                    go_quiet (fail)
                    go_wp2_with fail
                    go_roundw
                    case rel => exact ⟨q + 1, by omega, by rw [HS.out.1]; rfl, by go_num, HS.out.2.drewN _⟩
                    case measure => simp [intOf]; omega
                  | false =>
                    go_wp2_with fail
                    go_quiet (fail)
                    go_wp2_with fail
                    go_roundw
                    case rel => exact ⟨q + 1, by omega, by rw [HS.out.1]; rfl, by go_num, HS.out.2.drewN _⟩
                    case measure => simp [intOf]; omega
                · obtain rfl : m = q := by omega
                  have hvt : v.take m = v := List.take_of_length_le (by rw [HT.out.2.2.1]; exact Nat.le_refl _)
                  rw [hvt]
                  have b2 := ht3.cell (HX.out.1.cell HT.out.2.2.2 (by simp)) (by simp)
                  have HS := Lib.hid (HX.out.1.trans ht3)
                  by_cases hin : xi ∈ v.map (·.id)
                  · rw [decide_eq_true hin]
                    clear hin hvt ht3
                    go_wp2_with fail
                    go_quiet (fail)
                    go_wp2_with fail
                    go_roundw
                    case rel => exact ⟨k + 1, by omega, by go_num, HS.out.drewN _⟩
                    case measure => simp [intOf]; omega
                  · obtain ⟨q1, q2⟩ := HX.out.2.2 hin
                    rw [decide_eq_false hin]
                    have d1 : decide (zf < xf) = false := decide_eq_false (by omega)
                    clear hin hvt ht3
                    by_cases he : xf = zf
                    · have d2 : (xf == zf) = true := by simpa using he
                      have d3 : decide (xi < zi) = false := decide_eq_false (by first | omega | (intro h; have := q2 he; omega))
                      clear q1 q2 he
                      go_wp2_with fail
                      go_quiet (fail)
                      go_wp2_with fail
                      go_roundw
                      case rel => exact ⟨k + 1, by omega, by go_num, HS.out.drewN _⟩
                      case measure => simp [intOf]; omega
                    · have d2 : (xf == zf) = false := by simpa using he
                      clear q1 q2 he
                      go_wp2_with fail
                      go_quiet (fail)
                      go_wp2_with fail
                      go_roundw
                      case rel => exact ⟨k + 1, by omega, by go_num, HS.out.drewN _⟩
                      case measure => simp [intOf]; omega
            · obtain rfl : n = k := by omega
              have HF := Lib.hid hov
              clear ht2 hov hov3
              go_wp2_with fail
              go_ret
              exact ⟨rfl, HF.out⟩
  · rw [e] at hch
    clear hpa hpb hrd hrd' hO e hn hb ha
    go_enter Try.func6, Try.ntmps6
    go_wp2_with (first | (go_at_call 13; refine hkn.mono ?_; rintro e w1 ⟨rfl, o1⟩; clear hkn) | (go_at_call 19; refine (hch _ o1).mono ?_; rintro e w2 ⟨rfl, t2⟩; clear hch))
    go_ret
    exact ⟨rfl, o1.trans t2⟩
end Go.Proofs.Ytmbnmhcfafgnaaa
