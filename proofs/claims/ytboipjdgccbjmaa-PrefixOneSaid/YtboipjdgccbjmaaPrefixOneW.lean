/-
  Law 03: PrefixOne: the walk.
-/
import Derived.Test.YtboipjdgccbjmaaMade
import Derived.Test.YtboipjdgccbjmaaOneSpec
import Derived.Test.YtboipjdgccbjmaaKit
namespace Go.Mine
theorem bitsFrom_get {bs : List UInt8} {i m : Nat} (h : m < (bitsFrom bs i).length) : (bitsFrom bs i)[m]'h = decide (bitAt bs (i + m) = 1) := by simp [bitsFrom]
theorem numAt_one (bs : List UInt8) (i : Nat) : numAt bs i 1 = bitAt bs i := by simp [numAt]
end Go.Mine
namespace Go.Proofs.Ytboipjdgccbjmaa
open Go.RowKit Go.Mine

set_option maxRecDepth 100000 in
set_option maxHeartbeats 4000000 in
theorem PrefixOne_walk {w : World} (x : Value × List (List UInt8)) (hx : Rd w 1 x.1 x.2.length (txtCells x.2) ∧ (∀ s ∈ x.2, s.length ≤ maxLen) ∧ x.2.length ≤ maxLen) 
    (z : Value × List UInt8) (hzz : Rd w 1 z.1 z.2.length (byteCells z.2) ∧ z.2.length ≤ maxLen) (i : Int) (hi : -9223372036854775808 ≤ i ∧ i ≤ 9223372036854775807) :
    Calls Try.prog 11 #[x.1, z.1, .int .i64 i] w fun e w' => e = .returned (.bool true) ∧ OnlyIn [] w w' := by
  obtain ⟨cv, cs⟩ := x
  obtain ⟨bv, bs⟩ := z
  obtain ⟨hrc, hs, hcl⟩ := hx
  obtain ⟨hrb, hbl⟩ := hzz
  simp only at hrc hs hcl hrb hbl ⊢
  simp only [maxLen] at hs hcl hbl
  obtain ⟨A, c, rfl, hcc⟩ : ∃ A c, cv = .slice A cs.length c ∧ cs.length ≤ c := by
    obtain ⟨-, A, c, h1, h2, -⟩ := hrc; exact ⟨A, c, h1, h2⟩
  obtain ⟨E, f, rfl, hff⟩ : ∃ A c, bv = .slice A bs.length c ∧ bs.length ≤ c := by
    obtain ⟨-, A, c, h1, h2, -⟩ := hrb; exact ⟨A, c, h1, h2⟩
  have hlong := fun w1 (ho : OnlyIn [] w w1) => Long_any w1 _ cs (hrc.cells fun p u hp => ho.cell hp (by simp)) (by omega) (fun s hm => by have := hs s hm; omega)
  have hkn := known_any03 w
  by_cases hL : LongB cs = true
  · rw [hL] at hlong
    clear hrc hrb hs
    go_enter Try.func11, Try.ntmps11
    go_wp2_with (first | (go_at_call 10; refine hkn.mono ?_; rintro e w1 ⟨rfl, ht⟩) | (go_at_call 35; refine (hlong _ ht).mono ?_; rintro e w1 ⟨rfl, rfl⟩))
    go_ret
    exact ⟨rfl, ht⟩
  have hL' : LongB cs = false := by simpa using hL
  have hs24 : cs.length ≤ 60 → ∀ s ∈ cs, s.length ≤ 40 := fun h60 s hm => by
    unfold LongB at hL'
    simp only [Bool.or_eq_false_iff, List.any_eq_false] at hL'
    have := hL'.1 s (by rw [List.take_of_length_le (by omega)]; exact hm)
    simp at this
    exact this
  rw [hL'] at hlong
  clear hL hL'
  by_cases h60 : 60 < cs.length
  · have hd : decide ((60 : Int) < (cs.length : Int)) = true := by simp; omega
    clear hrc hrb hs
    go_enter Try.func11, Try.ntmps11
    go_wp2_with (first | (go_at_call 10; refine hkn.mono ?_; rintro e w1 ⟨rfl, ht⟩) | (go_at_call 35; refine (hlong _ ht).mono ?_; rintro e w1 ⟨rfl, rfl⟩))
    go_ret
    exact ⟨rfl, ht⟩
  have hd6 : decide ((60 : Int) < (cs.length : Int)) = false := by simp; omega
  by_cases h12 : 12 < bs.length
  · have hd : decide ((12 : Int) < (bs.length : Int)) = true := by simp; omega
    clear hrc hrb hs
    go_enter Try.func11, Try.ntmps11
    go_wp2_with (first | (go_at_call 10; refine hkn.mono ?_; rintro e w1 ⟨rfl, ht⟩) | (go_at_call 35; refine (hlong _ ht).mono ?_; rintro e w1 ⟨rfl, rfl⟩))
    go_ret
    exact ⟨rfl, ht⟩
  have hd1 : decide ((12 : Int) < (bs.length : Int)) = false := by simp; omega
  have hmd := fun w1 (ho : OnlyIn [] w w1) => made_any w1 _ cs (hrc.cells fun p u hp => ho.cell hp (by simp)) (by omega) (fun s hm => by have := hs24 (by omega) s hm; omega)
  have HP := Lib.hid (And.intro hrc hrb)
  obtain ⟨NC, hNC⟩ : ∃ NC, cs.length = NC := ⟨_, rfl⟩
  obtain ⟨NB, hNB⟩ : ∃ NB, bs.length = NB := ⟨_, rfl⟩
  have HNUM := Lib.hid (And.intro hNC hNB)
  rw [hNC] at hcl hcc hlong hd6 hmd ⊢
  rw [hNB] at hbl hff h12 hd1 ⊢
  clear hNC hNB hrb hrc hs hs24 h60
  go_enter Try.func11, Try.ntmps11
  go_wp2_with (first | (go_at_call 10; refine hkn.mono ?_; rintro e w1 ⟨rfl, ht⟩; clear hkn) | (go_at_call 35; refine (hlong _ ht).mono ?_; rintro e w2 ⟨rfl, rfl⟩; clear hlong))
  refine (hmd _ ht).mono ?_
  clear hmd
  rintro e w3 ⟨ht3, kv, p, K, hK, rfl, hrk, hcase⟩
  have hto := ht.then ht3 (by simp)
  clear ht ht3
  have hKO : KeptOk K := by rw [hK]; exact takeIn_ok _ _ KeptOk.nil
  obtain ⟨KN, hKN⟩ : ∃ KN, K.length = KN := ⟨_, rfl⟩
  obtain ⟨C, d, rfl, hdd⟩ : ∃ A c, kv = .slice A K.length c ∧ K.length ≤ c := by
    obtain ⟨-, A, c, h1, h2, -⟩ := hrk; exact ⟨A, c, h1, h2⟩
  rcases hcase with ⟨hnil, rfl⟩ | ⟨hne, t, b, v, mb, rfl, hb, hT⟩
  · have h0 : K.length = 0 := by rw [hnil]; rfl
    rw [h0]
    clear hKN hrk hdd h0
    go_wp2_with fail
    go_ret
    exact ⟨rfl, hto⟩
  have h0 : 0 < KN := by rw [← hKN]; exact List.length_pos_iff.2 hne
  have hk40 : KN ≤ 40 := by rw [← hKN]; exact hKO.1
  obtain ⟨g, off, rfl, hkc⟩ : ∃ g off, C = some ⟨g, off, none⟩ ∧ ∀ q, q < KN → w3.cell? ⟨g, off + q, none⟩ = some (.string (str (K.getD q []))) := by
    obtain ⟨-, A', c', hv, -, hA'⟩ := hrk
    injection hv with hv _ _
    subst hv
    obtain ⟨g, off, e1, e2⟩ := hA' (by omega)
    refine ⟨g, off, e1, fun q hq => ?_⟩
    have hql : q < K.length := by omega
    rw [List.getD_eq_getElem?_getD, List.getElem?_eq_getElem hql]
    exact e2 q _ (txtCells_get hql)
  have z0 : ((KN : Int) == 0) = false := by simp; omega
  obtain ⟨p, hp⟩ : ∃ p : Nat, i % (8 * (NB : Int) + 1) = (p : Int) := Int.eq_ofNat_of_zero_le (Int.emod_nonneg _ (by omega))
  have hpl : p ≤ 8 * NB := by have := Int.emod_lt_of_pos i (show (0 : Int) < 8 * (NB : Int) + 1 by omega); omega
  have hpk := fun w5 => Pick_any i (8 * (NB : Int) + 1) w5 (by omega) (by omega) hi.1 hi.2
  rw [hp] at hpk
  obtain ⟨LT, hLT⟩ : ∃ LT, 8 * NB - p = LT := ⟨_, rfl⟩
  have hLTi : 8 * (NB : Int) - (p : Int) = (LT : Int) := by omega
  obtain ⟨T, hTd⟩ : ∃ T, bitsFrom bs p = T := ⟨_, rfl⟩
  have hTl : T.length = LT := by rw [← hTd, bitsFrom_length, HNUM.out.2, hLT]
  have hrb3 := HP.out.2.cells (fun p u hp => hto.cell hp (by simp))
  have hg := TGet_all w3 hT (by rw [hKN]; exact h0) _ bs hrb3 (by have := HNUM.out.2; omega) p (by omega)
  have hgt : getTree t bs (p : Int) = getOf (kvOf (K.zip (upTo K.length))) T := by
    unfold getTree
    rw [if_neg (by omega), Int.toNat_natCast, hTd, getF_kept hKO hne hb]
  rw [hgt, HNUM.out.2] at hg
  obtain ⟨⟨x, xm, er⟩, hxx⟩ : ∃ x, getOf (kvOf (K.zip (upTo K.length))) T = x := ⟨_, rfl⟩
  rw [hxx] at hg
  have HX := Lib.hid (And.intro hxx (And.intro hTl (And.intro hTd (And.intro hKO hKN))))
  have HKC := Lib.hid hkc
  have HRB := Lib.hid hrb3
  rw [hKN] at hdd ⊢
  have hp2 : (p : Int) ≤ 96 := by omega
  clear hgt hxx hTl hTd hKO hKN hkc hrb3 hp hLT hrk hb hT hne hK HP
  go_wp2_with (first | (go_at_call 28; refine (hpk _).mono ?_; rintro e w4 ⟨rfl, rfl⟩; clear hpk) | (go_at_call 42; refine hg.mono ?_; rintro e w5 ⟨rfl, ht5⟩; clear hg))
  have hto5 := hto.then ht5 (by simp)
  have HKC5 : Hid (∀ q, q < KN → w5.cell? ⟨g, off + q, none⟩ = some (.string (str (K.getD q [])))) := Lib.hid (fun q hq => ht5.cell (HKC.out q hq) (by simp))
  have HRB5 := Lib.hid (HRB.out.cells (w' := w5) fun p u hp => ht5.cell hp (by simp))
  have HT5 := Lib.hid hto5
  clear hto hto5 ht5 HKC HRB
  go_loop [14, 15, 16, 17, 18, 19, 20] (fun wh pt i _ _ _ _ => ∃ (q : Nat) (whv : Int) (ptb : Bool), q ≤ KN ∧ i = .int .i64 (q : Int) ∧ wh = .int .i64 whv ∧ pt = .bool ptb ∧ Hid (OneAt K T q whv ptb)) (fun _ _ i _ _ _ _ => KN - (intOf i).toNat)
  case atStart => exact ⟨0, -1, false, by omega, rfl, rfl, rfl, Lib.hid (OneAt.start K T)⟩
  case round =>
    obtain ⟨q, whv, ptb, hq, rfl, rfl, rfl, HO⟩ := hrel
    by_cases hqk : q < KN
    · have hql : q < K.length := by rw [HX.out.2.2.2.2]; exact hqk
      have c1 := HKC5.out q hqk
      obtain ⟨s, hs⟩ : ∃ s, K.getD q [] = s := ⟨_, rfl⟩
      have hgs : K[q]? = some s := by rw [← hs, List.getD_eq_getElem?_getD, List.getElem?_eq_getElem hql]; rfl
      rw [hs] at c1
      have hcs : codeB s = true := List.all_eq_true.1 HX.out.2.2.2.1.2.1 _ (List.mem_of_getElem? hgs)
      have hss := str_size s
      obtain ⟨z, hz⟩ : ∃ z, s.length = z := ⟨_, rfl⟩
      rw [hz] at hss
      have hz24 : z ≤ 24 := by rw [← hz]; exact ((codeB_iff s).1 hcs).2.2
      have HS := Lib.hid (And.intro hgs (And.intro hcs hz))
      clear hs hgs hcs hz
      go_wp2_with fail
      go_loop [17, 18, 19, 20] (fun f j _ _ => ∃ m : Nat, m ≤ z ∧ m ≤ LT ∧ j = .int .i64 (m : Int) ∧ f = .bool (agreeB s T m)) (fun _ j _ _ => z - (intOf j).toNat)
      case atStart => exact ⟨0, by omega, by omega, rfl, by rw [agree_zero]⟩
      case round =>
        obtain ⟨m, hmz, hml, rfl, rfl⟩ := hrel
        by_cases hm1 : m < z
        · by_cases hm2 : m < LT
          · have hks : m < (str s).size := by omega
            have hkb : m < s.length := by rw [HS.out.2.2]; exact hm1
            have hmT : m < T.length := by rw [HX.out.2.1]; exact hm2
            have hget := str_at hks hkb
            have hrd := Read_all w5 _ bs HRB5.out (by have := HNUM.out.2; omega) ((p : Int) + (m : Int)) 1 (by omega)
            have hro : readOf bs ((p : Int) + (m : Int)) 1 = ((bitAt bs (p + m) : Int), 0) := by
              have := readOf_ok (bs := bs) (i := p + m) (n := 1) (by omega) (by rw [HNUM.out.2]; omega)
              rw [numAt_one] at this
              push_cast at this
              exact this
            rw [hro, HNUM.out.2] at hrd
            clear hro
            have hTm : T[m]'hmT = decide (bitAt bs (p + m) = 1) := by
              have h1 := HX.out.2.2.1
              subst h1
              exact bitsFrom_get hmT
            have hx2 : bitAt bs (p + m) = 0 ∨ bitAt bs (p + m) = 1 := by have := bitAt_lt bs (p + m); omega
            have hc2 : s[m]'hkb = 48 ∨ s[m]'hkb = 49 := ((codeB_iff s).1 HS.out.2.1).1 _ (List.getElem_mem hkb)
            rcases hag2 : agreeB s T m with _ | _
            · have HA2 : Hid (agreeB s T (m + 1) = false) := Lib.hid (by rw [agree_succ hkb hmT, hag2]; rfl)
              clear hget hc2 hx2
              go_wp2_with (go_at_call 29; refine hrd.mono ?_; rintro e w9 ⟨rfl, rfl⟩)
              go_round
              case rel => exact ⟨m + 1, by omega, by omega, by go_num, by rw [HA2.out]⟩
              case measure => simp [intOf]; omega
            · have hag : agreeB s T (m + 1) = decide ((s[m]'hkb == 49) = T[m]'hmT) := by rw [agree_succ hkb hmT, hag2, Bool.true_and]
              rcases hc2 with hc | hc
              · rcases hx2 with hx | hx
                · have hv : (((str s)[m]'hks).toNat : Int) = 48 := by rw [hget, hc]; rfl
                  have HA2 : Hid (agreeB s T (m + 1) = true) := Lib.hid (by rw [hag, hc, hTm, hx]; rfl)
                  rw [hx] at hrd
                  clear hget hc hag hTm hx
                  go_wp2_with (go_at_call 29; refine hrd.mono ?_; rintro e w9 ⟨rfl, rfl⟩)
                  go_round
                  case rel => exact ⟨m + 1, by omega, by omega, by go_num, by rw [HA2.out]⟩
                  case measure => simp [intOf]; omega
                · have hv : (((str s)[m]'hks).toNat : Int) = 48 := by rw [hget, hc]; rfl
                  have HA2 : Hid (agreeB s T (m + 1) = false) := Lib.hid (by rw [hag, hc, hTm, hx]; rfl)
                  rw [hx] at hrd
                  clear hget hc hag hTm hx
                  go_wp2_with (go_at_call 29; refine hrd.mono ?_; rintro e w9 ⟨rfl, rfl⟩)
                  go_round
                  case rel => exact ⟨m + 1, by omega, by omega, by go_num, by rw [HA2.out]⟩
                  case measure => simp [intOf]; omega
              · rcases hx2 with hx | hx
                · have hv : (((str s)[m]'hks).toNat : Int) = 49 := by rw [hget, hc]; rfl
                  have HA2 : Hid (agreeB s T (m + 1) = false) := Lib.hid (by rw [hag, hc, hTm, hx]; rfl)
                  rw [hx] at hrd
                  clear hget hc hag hTm hx
                  go_wp2_with (go_at_call 29; refine hrd.mono ?_; rintro e w9 ⟨rfl, rfl⟩)
                  go_round
                  case rel => exact ⟨m + 1, by omega, by omega, by go_num, by rw [HA2.out]⟩
                  case measure => simp [intOf]; omega
                · have hv : (((str s)[m]'hks).toNat : Int) = 49 := by rw [hget, hc]; rfl
                  have HA2 : Hid (agreeB s T (m + 1) = true) := Lib.hid (by rw [hag, hc, hTm, hx]; rfl)
                  rw [hx] at hrd
                  clear hget hc hag hTm hx
                  go_wp2_with (go_at_call 29; refine hrd.mono ?_; rintro e w9 ⟨rfl, rfl⟩)
                  go_round
                  case rel => exact ⟨m + 1, by omega, by omega, by go_num, by rw [HA2.out]⟩
                  case measure => simp [intOf]; omega
          · obtain rfl : m = LT := by omega
            have d1 : decide ((z : Int) ≤ (m : Int)) = false := decide_eq_false (by omega)
            have d2 : decide ((m : Int) < (z : Int)) = true := decide_eq_true (by omega)
            have hno : (bls s).isPrefixOf T = false := by
              rw [Bool.eq_false_iff]
              intro h
              have := (List.isPrefixOf_iff_prefix.1 h).length_le
              rw [bls_length, HS.out.2.2, HX.out.2.1] at this
              omega
            have hpart : partB T s = agreeB s T m := by
              have h1 := HX.out.2.1
              subst h1
              unfold partB
              rw [agree_part (by rw [HS.out.2.2]; omega), decide_eq_true (show T.length < s.length by rw [HS.out.2.2]; omega), Bool.and_true]
            rcases hag2 : agreeB s T m with _ | _
            · rw [hag2] at hpart
              have HO2 : Hid (OneAt K T (q + 1) whv ptb) := Lib.hid (HO.out.next HS.out.1 hno (by rw [hpart, Bool.or_false]))
              clear hno hpart hag2 HO
              cases ptb
              · go_wp2_with fail
                go_round
                case rel => exact ⟨q + 1, whv, _, by omega, by go_num, rfl, by first | rfl | (rw [decide_eq_false (by omega)]), HO2⟩
                case measure => simp [intOf]; omega
              · go_wp2_with fail
                go_round
                case rel => exact ⟨q + 1, whv, _, by omega, by go_num, rfl, by first | rfl | (rw [decide_eq_false (by omega)]), HO2⟩
                case measure => simp [intOf]; omega
            · rw [hag2] at hpart
              have HO2 : Hid (OneAt K T (q + 1) whv true) := Lib.hid (HO.out.next HS.out.1 hno (by rw [hpart, Bool.or_true]))
              clear hno hpart hag2 HO
              cases ptb
              · go_wp2_with fail
                go_round
                case rel => exact ⟨q + 1, whv, _, by omega, by go_num, rfl, by first | rfl | (rw [decide_eq_false (by omega)]), HO2⟩
                case measure => simp [intOf]; omega
              · go_wp2_with fail
                go_round
                case rel => exact ⟨q + 1, whv, _, by omega, by go_num, rfl, by first | rfl | (rw [decide_eq_false (by omega)]), HO2⟩
                case measure => simp [intOf]; omega
        · obtain rfl : m = z := by omega
          have d1 : decide ((m : Int) ≤ (LT : Int)) = true := decide_eq_true (by omega)
          have d2 : decide ((LT : Int) < (m : Int)) = false := decide_eq_false (by omega)
          have hpre : agreeB s T m = (bls s).isPrefixOf T := by
            have h1 := HS.out.2.2
            subst h1
            exact agree_pre (by rw [HX.out.2.1]; exact hml)
          rcases hag2 : agreeB s T m with _ | _
          · have hpart : partB T s = false := by unfold partB; rw [decide_eq_false (by rw [HX.out.2.1, HS.out.2.2]; omega), Bool.and_false]
            have HO2 : Hid (OneAt K T (q + 1) whv ptb) := Lib.hid (HO.out.next HS.out.1 (by rw [← hpre, hag2]) (by rw [hpart, Bool.or_false]))
            clear hpart hag2 hpre HO
            cases ptb
            · go_wp2_with fail
              go_round
              case rel => exact ⟨q + 1, whv, _, by omega, by go_num, rfl, by first | rfl | (rw [decide_eq_false (by omega)]), HO2⟩
              case measure => simp [intOf]; omega
            · go_wp2_with fail
              go_round
              case rel => exact ⟨q + 1, whv, _, by omega, by go_num, rfl, by first | rfl | (rw [decide_eq_false (by omega)]), HO2⟩
              case measure => simp [intOf]; omega
          · have hw1 : whv = -1 := OneAt.fresh HX.out.2.2.2.1 HO.out HS.out.1 (by rw [← hpre, hag2])
            have HO2 : Hid (OneAt K T (q + 1) (q : Int) ptb) := Lib.hid (HO.out.hit HS.out.1 (by rw [← hpre, hag2]) hw1)
            subst hw1
            clear hag2 hpre HO
            cases ptb
            · go_wp2_with fail
              go_round
              case rel => exact ⟨q + 1, _, _, by omega, by go_num, rfl, by first | rfl | (rw [decide_eq_false (by omega)]), HO2⟩
              case measure => simp [intOf]; omega
            · go_wp2_with fail
              go_round
              case rel => exact ⟨q + 1, _, _, by omega, by go_num, rfl, by first | rfl | (rw [decide_eq_false (by omega)]), HO2⟩
              case measure => simp [intOf]; omega
    · obtain rfl : q = KN := by omega
      have hgot := OneAt.got (wh := whv) (pt := ptb) HX.out.2.2.2.1 (by rw [HX.out.2.2.2.2]; exact HO.out)
      rw [HX.out.1] at hgot
      rcases hgot with ⟨j, s, hj, hs, rfl, he⟩ | ⟨rfl, rfl, he⟩ | ⟨rfl, rfl, he⟩
      · rw [HX.out.2.2.2.2] at hj
        have c1 := HKC5.out j hj
        rw [List.getD_eq_getElem?_getD, hs] at c1
        simp only [Option.getD] at c1
        have hss := str_size s
        obtain ⟨z, hz⟩ : ∃ z, s.length = z := ⟨_, rfl⟩
        rw [hz] at hss he
        simp only [Prod.mk.injEq] at he
        obtain ⟨rfl, rfl, rfl⟩ := he
        have b1 : ((j : Int) == (j : Int)) = true := by simp
        have b2 : ((z : Int) == (z : Int)) = true := by simp
        clear hs hz HO HX
        go_wp2_with fail
        go_ret
        exact ⟨by simp, HT5.out⟩
      · simp only [Prod.mk.injEq] at he
        obtain ⟨rfl, rfl, rfl⟩ := he
        clear HO HX
        go_wp2_with fail
        go_ret
        exact ⟨rfl, HT5.out⟩
      · simp only [Prod.mk.injEq] at he
        obtain ⟨rfl, rfl, rfl⟩ := he
        clear HO HX
        go_wp2_with fail
        go_ret
        exact ⟨rfl, HT5.out⟩
end Go.Proofs.Ytboipjdgccbjmaa
