/-
  Law 01: BitsStarts.
-/
import Derived.Test.YtejomjkkjcnfnaaFinds01
import Derived.Test.YtejomjkkjcnfnaaPenR
namespace Go.Mine
theorem startOf_spec (bs : List UInt8) (f : Nat) : (∃ er : Int, startOf bs f = (0, 0, er) ∧ (er = 5 ∨ er = 7)) ∨
    ∃ k : Nat, startOf bs f = ((numAt bs (f + k + 1) 4 : Int), (k : Int) + 5, 0) ∧ 15 ≤ k ∧ f + k + 5 ≤ 8 * bs.length ∧ (∀ j, j < k → bitAt bs (f + j) = 0) ∧ bitAt bs (f + k) = 1 := by
  unfold startOf
  by_cases h1 : 8 * bs.length ≤ f + noughts bs f
  · rw [if_pos h1]; exact .inl ⟨5, rfl, .inl rfl⟩
  · rw [if_neg h1]
    by_cases h2 : noughts bs f < 15
    · rw [if_pos h2]; exact .inl ⟨7, rfl, .inr rfl⟩
    · rw [if_neg h2]
      by_cases h3 : f + noughts bs f + 5 ≤ 8 * bs.length
      · rw [if_pos h3]
        refine .inr ⟨_, rfl, by omega, h3, fun j hj => noughtsF_zero bs _ f j hj, noughtsF_one bs _ f (by show noughts bs f < _; omega)⟩
      · rw [if_neg h3]; exact .inl ⟨5, rfl, .inl rfl⟩
theorem findOf_start {bs : List UInt8} {f k : Nat} (hk : 15 ≤ k) (hl : f + k + 5 ≤ 8 * bs.length) (hz : ∀ j, j < k → bitAt bs (f + j) = 0) (h1 : bitAt bs (f + k) = 1) : findOf bs f = (((f + k - 15 : Nat) : Int), 0) := by
  unfold findOf
  rw [findF_run bs _ f 0 k hz (by omega), Nat.zero_add, findF_stop (by omega) h1 hk]
  rfl
/-- The bits from a place on. -/
def bitsFrom (bs : List UInt8) (f n : Nat) : List Nat := (List.range n).map fun j => bitAt bs (f + j)
theorem bitsFrom_length (bs : List UInt8) (f n : Nat) : (bitsFrom bs f n).length = n := by simp [bitsFrom]
theorem bitsFrom_succ (bs : List UInt8) (f n : Nat) : bitsFrom bs f (n + 1) = bitsFrom bs f n ++ [bitAt bs (f + n)] := by simp [bitsFrom, List.range_succ]
theorem bitsFrom_get (bs : List UInt8) (f n j : Nat) (h : j < n) : (bitsFrom bs f n).getD j 0 = bitAt bs (f + j) := by simp [bitsFrom, h]
theorem numAt_congr {a b : List UInt8} {i j n : Nat} (h : ∀ t, t < n → bitAt a (i + t) = bitAt b (j + t)) : numAt a i n = numAt b j n := by
  induction n with
  | zero => rfl
  | succ n ih => rw [numAt, numAt, ih (fun t ht => h t (by omega)), h n (by omega)]
theorem bitsOf_one (x : Nat) (h : x < 2) : bitsOf x 1 = [x] := by simp [bitsOf]; omega
theorem start_shift {bs : List UInt8} {f k m : Nat} (hk : 15 ≤ k) (hl : f + k + 5 ≤ 8 * bs.length) (hz : ∀ j, j < k → bitAt bs (f + j) = 0) (h1 : bitAt bs (f + k) = 1) (hb : Bin (List.replicate m 0 ++ bitsFrom bs f (8 * bs.length - f))) :
    startOf (pack (List.replicate m 0 ++ bitsFrom bs f (8 * bs.length - f))) 0 = ((numAt bs (f + k + 1) 4 : Int), ((m + k : Nat) : Int) + 5, 0) := by
  have hlen : (List.replicate m 0 ++ bitsFrom bs f (8 * bs.length - f)).length = m + (8 * bs.length - f) := by simp [bitsFrom_length]
  have hpl := pack_length (List.replicate m 0 ++ bitsFrom bs f (8 * bs.length - f))
  rw [hlen] at hpl
  have hbit : ∀ i, i < m + (8 * bs.length - f) → bitAt (pack (List.replicate m 0 ++ bitsFrom bs f (8 * bs.length - f))) i = if i < m then 0 else bitAt bs (f + (i - m)) := by
    intro i hi
    rw [bitAt_pack hb i (by rw [hlen]; omega), List.getD_eq_getElem?_getD, List.getElem?_append]
    simp only [List.length_replicate]
    split
    · rename_i h; simp [h]
    · rename_i h
      rw [← List.getD_eq_getElem?_getD, bitsFrom_get _ _ _ _ (by omega)]
  have := startOf_ok (bs := pack (List.replicate m 0 ++ bitsFrom bs f (8 * bs.length - f))) (i := 0) (k := m + k)
    (fun j hj => by
      rw [Nat.zero_add, hbit j (by omega)]
      split
      · rfl
      · exact hz _ (by omega))
    (by rw [Nat.zero_add, hbit _ (by omega), if_neg (by omega), show m + k - m = k by omega]; exact h1)
    (by omega) (by rw [hpl]; omega)
  rw [this]
  congr 2
  exact numAt_congr (fun t ht => by
    rw [hbit _ (by omega), if_neg (by omega)]
    congr 1
    omega)
end Go.Mine
namespace Go.Proofs.Ytejomjkkjcnfnaa
open Go.RowKit Go.Mine

set_option maxRecDepth 100000 in
theorem startAll_nat (bs : List UInt8) (f : Nat) : startAll bs (f : Int) = startOf bs f := by rw [startAll, if_neg (by omega)]; simp

set_option maxRecDepth 100000 in
set_option maxHeartbeats 4000000 in
theorem Starts_walk {w : World} (x : Value × List UInt8) (hx : Rd w 1 x.1 x.2.length (byteCells x.2) ∧ x.2.length ≤ maxLen) (i : Int) (hi : -9223372036854775808 ≤ i ∧ i ≤ 9223372036854775807) (i2 : Int) (hi2 : -9223372036854775808 ≤ i2 ∧ i2 ≤ 9223372036854775807) :
    Calls Try.prog 8 #[x.1, .int .i64 i, .int .i64 i2] w fun e w' => e = .returned (.bool true) ∧ OnlyIn [] w w' := by
  obtain ⟨v, bs⟩ := x
  obtain ⟨hr, hml⟩ := hx
  simp only at hr hml ⊢
  unfold maxLen at hml
  have hr' := hr
  obtain ⟨-, A, c, rfl, hc, hA⟩ := hr'
  clear hA
  go_enter Try.func8, Try.ntmps8
  go_wp2_with fail
  refine (known_any w).mono ?_
  rintro e w1 ⟨rfl, ht1⟩
  by_cases h60 : 60 < bs.length
  · go_wp2_with fail
    go_ret
    exact ⟨rfl, ht1⟩
  · have hr1 : Rd w1 1 (.slice A bs.length c) bs.length (byteCells bs) := hr.cells fun p u hp => ht1.cell hp (by simp)
    have h60' : bs.length ≤ 60 := by omega
    have h60b : decide (60 < bs.length) = false := decide_eq_false h60
    have hm0 : 0 ≤ i % (8 * (bs.length : Int) + 1) := Int.emod_nonneg _ (by omega)
    have hm1 : i % (8 * (bs.length : Int) + 1) < 8 * (bs.length : Int) + 1 := Int.emod_lt_of_pos _ (by omega)
    obtain ⟨f, hf⟩ := Int.eq_ofNat_of_zero_le hm0
    rw [hf] at hm1
    have hpick := Pick_any i (8 * (bs.length : Int) + 1) w1 (by omega) (by omega) hi.1 hi.2
    rw [hf] at hpick
    have hp0 : 0 ≤ i2 % 41 := Int.emod_nonneg _ (by omega)
    have hp1 : i2 % 41 < 41 := Int.emod_lt_of_pos _ (by omega)
    obtain ⟨m, hm⟩ := Int.eq_ofNat_of_zero_le hp0
    rw [hm] at hp1
    have HF := Lib.hid (And.intro hf hm)
    clear hf hm0 hm hp0
    go_wp2_with (go_at_call 31; refine hpick.mono ?_; rintro e w2 ⟨rfl, rfl⟩)
    refine (Start_all w1 _ bs hr1 (by omega) (f : Int)).mono ?_
    rintro e w2 ⟨rfl, ht2⟩
    rw [startAll_nat]
    have hr2 : Rd w2 1 (.slice A bs.length c) bs.length (byteCells bs) := hr1.cells fun p u hp => ht2.cell hp (by simp)
    have ht12 := ht1.trans ht2
    clear ht1 ht2 hr1 hpick
    go_wp2_with fail
    refine (Find_all w2 _ bs hr2 (by omega) (f : Int)).mono ?_
    rintro e w3 ⟨rfl, ht3⟩
    rw [findAll_nat]
    have hr3 : Rd w3 1 (.slice A bs.length c) bs.length (byteCells bs) := hr2.cells fun p u hp => ht3.cell hp (by simp)
    have ht := ht12.trans ht3
    clear ht12 ht3 hr2
    rcases startOf_spec bs f with ⟨er, hs, her⟩ | ⟨k, hs, hk15, hkl, hz, hone⟩
    · rw [hs]
      clear hs
      rcases her with rfl | rfl
      · go_wp2_with fail
        go_ret
        exact ⟨rfl, ht⟩
      · go_wp2_with fail
        go_ret
        exact ⟨rfl, ht⟩
    · rw [hs, findOf_start hk15 hkl hz hone]
      have HS := Lib.hid (And.intro hs (And.intro hz hone))
      have hrd2 := reads_any w3 _ bs hr3 (by omega) ((f + k + 1 : Nat) : Int) 4 (numAt bs (f + k + 1) 4 : Int) 0 (by omega)
      rw [show decide (readOf bs ((f + k + 1 : Nat) : Int) 4 = ((numAt bs (f + k + 1) 4 : Int), 0)) = true from decide_eq_true (readOf_ok (n := 4) (by omega) (by omega))] at hrd2
      have hrd1 := reads_any w3 _ bs hr3 (by omega) (f : Int) (k : Int) 0 0 (by omega)
      have hrv : decide (readOf bs (f : Int) (k : Int) = (0, 0)) = decide (k ≤ 32) := by
        by_cases h : k ≤ 32
        · rw [readOf_ok h (by omega), (numAt_zero bs f k).2 hz]; simp [h]
        · rw [readOf, if_pos (by omega)]; simp [h]
      rw [hrv] at hrd1
      obtain ⟨y, hy⟩ : ∃ y, f + k - 15 = y := ⟨_, rfl⟩
      rw [hy]
      obtain ⟨num, hnum⟩ : ∃ num, numAt bs (f + k + 1) 4 = num := ⟨_, rfl⟩
      rw [hnum] at hrd2 ⊢
      have HY := Lib.hid (And.intro hy hnum)
      have hyk : (f : Int) + ((k : Int) + 5) - 20 = (y : Int) := by omega
      have e1 : (k : Int) + 5 - 5 = (k : Int) := by omega
      have e2 : (f : Int) + ((k : Int) + 5) - 4 = ((f + k + 1 : Nat) : Int) := by omega
      have hn20 : ¬ (k : Int) + 5 < 20 := by omega
      clear hs hz hone hy hrv hnum
      rcases hq : decide (k ≤ 32) with _ | _
      all_goals
        rw [hq] at hrd1
        have hk37 : decide ((k : Int) + 5 ≤ 37) = decide (k ≤ 32) := by rw [decide_eq_decide]; omega
        rw [hq] at hk37
        go_wp2_with fail
        refine hrd1.mono ?_
        rintro e w4 ⟨rfl, rfl⟩
        go_wp2_with fail
        rw [show (f : Int) + (k : Int) + 1 = ((f + k + 1 : Nat) : Int) from by omega]
        refine hrd2.mono ?_
        rintro e w4 ⟨rfl, rfl⟩
        clear hrd1 hrd2 e2
        go_wp2_with fail
        refine (NewPen_R w w3 ht).mono ?_
        rintro e w4 ⟨b, rfl, hP⟩
        have hpk2 := Pick_any i2 41 w4 (by omega) (by omega) hi2.1 hi2.2
        rw [HF.out.2] at hpk2
        go_wp2_with (go_at_call 31; refine hpk2.mono ?_; rintro e w5 ⟨rfl, rfl⟩)
        have HR := Lib.hid hr
        clear hr hr3 ht hpk2 hk37
        go_loopw [14] (fun i wr => ∃ j : Nat, j ≤ m ∧ i = .int .i64 (j : Int) ∧ PenR w wr b (List.replicate j 0)) (fun i _ => m - (intOf i).toNat)
        case atStart => exact ⟨0, by omega, rfl, hP⟩
        case round =>
          clear hP
          obtain ⟨j, hj, rfl, hP⟩ := hrel
          by_cases hjm : j < m
          · go_wp2_with fail
            refine (Put_R hP 0 1 (by omega) (by decide) (by simp; omega)).mono ?_
            rintro e w6 ⟨rfl, hP2⟩
            have hP3 : PenR w w6 b (List.replicate (j + 1) 0) := by rw [List.replicate_succ']; exact hP2
            clear hP2 hP
            go_wp2_with fail
            go_roundw
            case rel => exact ⟨j + 1, by omega, by go_num, hP3⟩
            case measure => simp [intOf]; omega
          · obtain rfl : j = m := by omega
            go_wp2_with fail
            go_loopw [15] (fun i wr => ∃ t : Nat, f + t ≤ 8 * bs.length ∧ i = .int .i64 ((f : Int) + (t : Int)) ∧ PenR w wr b (List.replicate j 0 ++ bitsFrom bs f t)) (fun i _ => 8 * bs.length - (intOf i).toNat)
            case atStart => exact ⟨0, by omega, by simp, by simpa [bitsFrom] using hP⟩
            case round =>
              clear hP
              obtain ⟨t, htl, rfl, hP⟩ := hrel
              by_cases hlt : f + t < 8 * bs.length
              · have hrr := HR.out.cells (w' := wr) fun p u hp => hP.only.cell hp (by simp)
                have hread := Read_all wr _ bs hrr (by omega) ((f + t : Nat) : Int) 1 (by omega)
                have hro := readOf_ok (bs := bs) (i := f + t) (n := 1) (by omega) (by omega)
                rw [show ((1 : Nat) : Int) = 1 from rfl] at hro
                rw [hro, show numAt bs (f + t) 1 = bitAt bs (f + t) from by simp [numAt]] at hread
                rw [show ((f + t : Nat) : Int) = (f : Int) + (t : Int) from by omega] at hread
                have hbl := bitAt_lt bs (f + t)
                have hPo := hP
                obtain ⟨z, hz⟩ : ∃ z, bitAt bs (f + t) = z := ⟨_, rfl⟩
                rw [hz] at hread hbl
                have HZ := Lib.hid hz
                clear hz hro hrr
                go_wp2_with fail
                refine hread.mono ?_
                rintro e w6 ⟨rfl, rfl⟩
                go_wp2_with fail
                refine (Put_R hPo z 1 (by omega) (by omega) (by simp [bitsFrom_length]; omega)).mono ?_
                rintro e w7 ⟨rfl, hP2⟩
                have hP3 : PenR w w7 b (List.replicate j 0 ++ bitsFrom bs f (t + 1)) := by
                  rw [bitsFrom_succ, HZ.out, ← List.append_assoc, ← bitsOf_one z hbl]; exact hP2
                clear hP2 hP hPo hread
                go_wp2_with fail
                go_roundw
                case rel => exact ⟨t + 1, by omega, by go_num, hP3⟩
                case measure => simp [intOf]; omega
              · have htt : t = 8 * bs.length - f := by omega
                have hS := start_shift (m := j) hk15 hkl HS.out.2.1 HS.out.2.2 (by rw [← htt]; exact hP.bin)
                rw [HY.out.2, ← htt] at hS
                have HSS := Lib.hid hS
                have HTT := Lib.hid htt
                clear hS htt
                go_wp2_with fail
                refine (Bytes_R hP).mono ?_
                rintro e w6 ⟨u, rfl, hu, hP6⟩
                have hpl : (pack (List.replicate j 0 ++ bitsFrom bs f t)).length ≤ 1000000000 := by rw [pack_length]; have := hP.small; omega
                have hst := starts_yes w6 u _ (Rd.of_sl hu) hpl 0 (num : Int) ((k : Int) + 5 + (j : Int)) 0 (by
                  rw [startAll, if_neg (by omega)]
                  have := HSS.out
                  simp only [Int.toNat_zero]
                  rw [this]
                  congr 2
                  push_cast
                  omega)
                have hon := hP6.only
                clear hu hP hP6 hpl
                go_wp2_with fail
                refine hst.mono ?_
                rintro e w7 ⟨rfl, ht7⟩
                go_wp2_with fail
                go_ret
                exact ⟨rfl, hon.trans ht7⟩
end Go.Proofs.Ytejomjkkjcnfnaa
