/-
  Law 18: GroupAgain: the walk.
-/
import Derived.Test.YtejomjkkjcnfnaaGroupBackW
namespace Go.Mine
open Go.RowKit
theorem bitAt_take {bs : List UInt8} {k i : Nat} (h : i < 8 * (bs.take k).length) : bitAt (bs.take k) i = bitAt bs i := by
  have hl : i / 8 < (bs.take k).length := by omega
  have hk : i / 8 < k := by rw [List.length_take] at hl; omega
  unfold bitAt shAt
  rw [List.getD_eq_getElem?_getD, List.getD_eq_getElem?_getD, List.getElem?_take, if_pos hk]
theorem getAll_fault {bs : List UInt8} (h : (getAll bs 0).2.2.2 ≠ 0) : getAll bs 0 = (0, [], 0, (getAll bs 0).2.2.2) := by
  rw [getAll, if_neg (by omega)] at h ⊢
  exact getN_fault h
end Go.Mine
namespace Go.Proofs.Ytejomjkkjcnfnaa
open Go.RowKit Go.Mine

set_option maxRecDepth 100000 in
set_option maxHeartbeats 4000000 in
theorem GroupAgain_walk {w : World} (x : Value × List UInt8) (hx : Rd w 1 x.1 x.2.length (byteCells x.2) ∧ x.2.length ≤ maxLen) :
    Calls Try.prog 10 #[x.1] w fun e w' => e = .returned (.bool true) ∧ OnlyIn [] w w' := by
  obtain ⟨v, s⟩ := x
  obtain ⟨hr, hml⟩ := hx
  simp only at hr hml ⊢
  have hr' := hr
  obtain ⟨-, A, c, rfl, hc, -⟩ := hr'
  by_cases hl : 100 < s.length
  · have hd : decide ((100 : Int) < (s.length : Int)) = true := by simp; omega
    clear hr
    go_enter Try.func10, Try.ntmps10
    go_wp2_with (go_at_call 36; refine (awake_any18 _).mono ?_; rintro e w1 ⟨rfl, ht⟩)
    go_ret
    exact ⟨rfl, ht⟩
  have hd : decide ((100 : Int) < (s.length : Int)) = false := by simp; omega
  have hl9 : s.length ≤ 1000000000 := by omega
  have hG := fun w h => gGet_any w (.slice A s.length c) s h hl9 0 (by decide)
  unfold GetEnd at hG
  by_cases h0 : (getAll s 0).2.2.2 = 0
  · obtain ⟨⟨q, l, n, er⟩, hE⟩ : ∃ E, getAll s 0 = E := ⟨_, rfl⟩
    rw [hE] at hG h0
    simp only at h0
    subst h0
    have hgn : getN s 0 = (q, l, n, 0) := by rw [← hE, getAll, if_neg (by omega)]; rfl
    obtain ⟨hbits, hq1, hq2, hll, hn⟩ := getN_got hgn
    have hroom := hbits.room
    have hlH := headBits_length q l
    have hbH := headBits_bin q l
    have eP := headOf_ok (q := q) (s := l) hq1 hq2 hll
    have hP := fun w v h => gPut_any w (q : Int) v l h (by omega)
    rw [eP] at hP
    unfold TextErr at hP
    have hshort : getAll (s.take ((n - 1) / 8)) 0 = (0, [], 0, 5) := by
      rw [getAll, if_neg (by omega)]
      exact getN_short (fun i hi => bitAt_take hi) hgn (by rw [List.length_take]; omega)
    have hlH' : (headBits q l).length = n := by omega
    have hbit : ∀ j (h : j < (headBits q l).length), bitAt s j = (headBits q l)[j]'h := fun j h => by
      have := hbits.2 j _ (List.getElem?_eq_getElem h)
      rwa [Nat.zero_add] at this
    have hn6 : 6 ≤ n := by omega
    have hn8 : n ≤ 8 * s.length := by omega
    generalize headBits q l = H at hP hlH hbH hlH' hbit hroom
    have b1 := fun w => bits18_any w H hbH (by omega)
    have hz1 : ((str (txt H)).size : Int) = (n : Int) := by rw [str_size, txt_length]; omega
    have hz2 : (str (txt H)).size = n := by omega
    have hq0 : ¬ ((8 : Int) * (s.length : Int) < (n : Int)) := by omega
    have hq3 : ¬ ((n : Int) < 6) := by omega
    have HH := Lib.hid (And.intro hbit (And.intro hbH (And.intro hlH' (And.intro hshort hr))))
    clear hE hgn hbits hn eP hlH hshort hr hbit hbH hroom hll hq1 hq2
    go_enter Try.func10, Try.ntmps10
    go_wp2_with fail
    refine (awake_any18 _).mono ?_
    rintro e w1 ⟨rfl, t1⟩
    go_wp2_with fail
    refine (hG _ (HH.out.2.2.2.2.cells fun p u hp => t1.cell hp (by simp))).mono ?_
    rintro e w2 ⟨u, rfl, hs2, t2⟩
    try simp only at hs2
    have hru := Rd.of_sl hs2
    have o2 := t1.trans t2
    clear t1 t2
    go_wp2_with fail
    refine (hP _ _ hru).mono ?_
    rintro e w' ⟨rfl, rfl⟩
    go_wp2_with fail
    refine (b1 _).mono ?_
    rintro e w' ⟨rfl, rfl⟩
    clear hP hG
    go_wp2_with fail
    go_loopw [10] (fun i wr => ∃ k : Nat, k ≤ n ∧ i = .int .i64 (k : Int) ∧ OnlyIn [] w wr) (fun i _ => n - (intOf i).toNat)
    case atStart => exact ⟨0, by omega, rfl, o2⟩
    case round =>
      clear o2
      obtain ⟨k, hk, rfl, hto⟩ := hrel
      obtain ⟨hbit, hbH, hlH, hshort, hr⟩ := HH.out
      by_cases hlt : k < n
      · have hjs : k < (str (txt H)).size := by omega
        have hkt : k < (txt H).length := by rw [txt_length]; omega
        have hget := str_get hjs hkt
        have hz := txt_get hbH (by omega : k < H.length) hkt
        have hx := hbH _ (List.getElem_mem (by omega : k < H.length))
        have hb := hbit k (by omega)
        obtain ⟨z, hzz⟩ : ∃ z, H[k]'(by omega) = z := ⟨_, rfl⟩
        rw [hzz] at hz hx hb
        have hv : (((str (txt H))[k]'hjs).toNat : Int) = 48 + (z : Int) := by rw [hget, hz]; push_cast; rfl
        obtain ⟨g, off, c', hvv, q0⟩ := Rd.atB hr (by omega : k / 8 < s.length)
        injection hvv with hvv _ hcc
        subst hvv hcc
        have q1 := hto.cell q0 (by simp)
        have hsh : (s[k / 8]'(by omega)).toNat / 2 ^ (7 - k % 8) % 2 = z := by
          rw [← hb]
          unfold bitAt shAt
          rw [List.getD_eq_getElem?_getD, List.getElem?_eq_getElem (by omega)]
          rfl
        obtain ⟨y, hy⟩ : ∃ y, (s[k / 8]'(by omega)).toNat = y := ⟨_, rfl⟩
        have hy8 : y < 256 := by rw [← hy]; exact UInt8.toNat_lt _
        rw [hy] at q1 hsh
        obtain ⟨qq, hqq⟩ : ∃ q, k / 8 = q := ⟨_, rfl⟩
        obtain ⟨r, hr8⟩ : ∃ r, k % 8 = r := ⟨_, rfl⟩
        obtain ⟨m, hm⟩ : ∃ m, 7 - r = m := ⟨_, rfl⟩
        rw [hqq] at q1
        rw [hr8, hm] at hsh
        have htm : (k : Int).tmod 8 = (r : Int) := by rw [Int.tmod_eq_emod_of_nonneg (by omega)]; omega
        have htd : (k : Int).tdiv 8 = (qq : Int) := by rw [Int.tdiv_eq_ediv_of_nonneg (by omega)]; omega
        have h70 : (7 : Int) - (r : Int) = (m : Int) := by omega
        have hqs : (qq : Int) < (s.length : Int) := by omega
        have hw1 : IntKind.i64.wrap (qq : Int) = (qq : Int) := by rw [IntKind.wrap_i64]; omega
        have hw2 : IntKind.i64.wrap (m : Int) = (m : Int) := by rw [IntKind.wrap_i64]; omega
        have hw3 : IntKind.u64.wrap (m : Int) = (m : Int) := by rw [IntKind.wrap_u64]; omega
        have hm64 : (m : Int) < 64 := by omega
        obtain ⟨t, ht⟩ : ∃ t, y / 2 ^ m = t := ⟨_, rfl⟩
        have hle : t ≤ y := by rw [← ht]; exact Nat.div_le_self _ _
        have hdv : (y : Int) / 2 ^ m = (t : Int) := by rw [← ht]; push_cast; rfl
        rw [ht] at hsh
        have htt : (t : Int).tmod 2 = (z : Int) := by rw [Int.tmod_eq_emod_of_nonneg (by omega)]; omega
        have hu1 : IntKind.u8.wrap (48 + (z : Int) - 48) = (z : Int) := by rw [IntKind.wrap_u8]; omega
        have hu2 : (48 : Int) + (z : Int) - 48 = (z : Int) := by omega
        have hu3 : IntKind.u8.wrap (z : Int) = (z : Int) := by rw [IntKind.wrap_u8]; omega
        have hi3 : IntKind.i64.wrap (z : Int) = (z : Int) := by rw [IntKind.wrap_i64]; omega
        have ht3 : IntKind.u8.wrap (t : Int) = (t : Int) := by rw [IntKind.wrap_u8]; omega
        have ht4 : IntKind.i64.wrap (t : Int) = (t : Int) := by rw [IntKind.wrap_i64]; omega
        have hmeas : n - (k + 1) < n - k := by omega
        have HT := Lib.hid hto
        have hk1 : k + 1 ≤ n := by omega
        clear hbit hbH hlH hshort hr hget hz hzz hb hsh hy hqq hr8 hm ht q0 hto
        go_wp2_with fail
        go_quiet (fail)
        go_wp2_with fail
        go_roundw
        case rel => exact ⟨k + 1, hk1, by go_num, HT.out.drewN _⟩
        case measure => simp [intOf]; exact hmeas
      · obtain rfl : k = n := by omega
        obtain ⟨m, hm⟩ : ∃ m, (k - 1) / 8 = m := ⟨_, rfl⟩
        have htd : ((k : Int) - 1).tdiv 8 = (m : Int) := by rw [Int.tdiv_eq_ediv_of_nonneg (by omega)]; omega
        have hw1 : IntKind.i64.wrap (m : Int) = (m : Int) := by rw [IntKind.wrap_i64]; omega
        have hms : m ≤ s.length := by omega
        have hmc : m ≤ c := by omega
        have hmi : (m : Int) ≤ (c : Int) := by omega
        have hm0 : (0 : Int) ≤ (m : Int) := by omega
        rw [hm] at hshort
        have htk := Rd.take (hr.cells (w' := wr) fun p u hp => hto.cell hp (by simp)) hms hmc
        have hlt8 : (s.take m).length = m := by rw [List.length_take]; omega
        have hgt := gets_yes18 wr (.slice A m c) (s.take m) (by rw [hlt8]; exact htk) (by omega) (.slice none 0 0) [] (Rd.nil _ _) 0 0 5 (by rw [hshort]; exact ⟨rfl, rfl, rfl, rfl⟩)
        have HT := Lib.hid hto
        clear hbit hbH hlH hshort hr hto htk hlt8 hm
        go_wp2_with fail
        refine hgt.mono ?_
        rintro e w9 ⟨rfl, t9⟩
        clear hgt
        go_wp2_with fail
        go_ret
        exact ⟨rfl, HT.out.trans t9⟩
  · have hF := getAll_fault h0
    obtain ⟨er, her⟩ : ∃ er, (getAll s 0).2.2.2 = er := ⟨_, rfl⟩
    rw [her] at hF h0
    rw [hF] at hG
    have hdd : (er == 0) = false := by simp [h0]
    clear hF her h0
    have HR := Lib.hid hr
    clear hr
    go_enter Try.func10, Try.ntmps10
    go_wp2_with fail
    refine (awake_any18 _).mono ?_
    rintro e w1 ⟨rfl, t1⟩
    go_wp2_with fail
    refine (hG _ (HR.out.cells fun p u hp => t1.cell hp (by simp))).mono ?_
    rintro e w2 ⟨u, rfl, hs2, t2⟩
    try simp only [List.length_nil] at hs2
    obtain ⟨Au, cu, rfl, hcu⟩ := hs2.val
    go_wp2_with fail
    go_ret
    exact ⟨rfl, t1.trans t2⟩
end Go.Proofs.Ytejomjkkjcnfnaa
