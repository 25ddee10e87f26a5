/-
  Law 17: PictureAgain: the walk.
-/
import Derived.Test.YtboipjdgccbjmaaLaw17
import Derived.Test.YtboipjdgccbjmaaPicLaw
import Derived.Test.YtboipjdgccbjmaaPenCode
import Derived.Test.YtboipjdgccbjmaaKit
namespace Go.Mine
open Go.RowKit
theorem txt_get {l : List Nat} (hb : Bin l) {k : Nat} (hk : k < l.length) (hk2 : k < (txt l).length) : ((txt l)[k]'hk2).toNat = 48 + l[k]'hk := by
  have h := hb _ (List.getElem_mem hk)
  simp only [txt, List.getElem_map]
  rw [UInt8.toNat_ofNat_of_lt' (show 48 + l[k] < 2 ^ 8 by omega)]
theorem putOf_ok {t y : Nat} {s : List UInt8} (ht : t ≤ 31) (hy : y ≤ 63) (hs : s.length ≤ 32) : putOf (t : Int) (y : Int) s = (txt (picBits t y s), 0) := by
  rw [putOf, if_pos (by unfold HeadOk; omega)]
  simp
theorem checkOf_ok {t y : Nat} {n : Nat} (ht : t ≤ 31) (hy : y ≤ 63) (hs : n ≤ 32) : checkOf (t : Int) (y : Int) n = 0 := by
  rw [checkOf, if_pos (by unfold HeadOk; omega)]
end Go.Mine
namespace Go.Proofs.Ytboipjdgccbjmaa
open Go.RowKit Go.Mine

set_option maxRecDepth 100000 in
set_option maxHeartbeats 4000000 in
theorem PictureAgain_walk {w : World} (x : Value × List UInt8) (hx : Rd w 1 x.1 x.2.length (byteCells x.2) ∧ x.2.length ≤ maxLen) (i : Int) (hi : -9223372036854775808 ≤ i ∧ i ≤ 9223372036854775807) :
    Calls Try.prog 6 #[x.1, .int .i64 i] w fun e w' => e = .returned (.bool true) ∧ OnlyIn [] w w' := by
  obtain ⟨v, s⟩ := x
  obtain ⟨hr, hml⟩ := hx
  simp only at hr hml ⊢
  have hr' := hr
  obtain ⟨-, A, c, rfl, hc, -⟩ := hr'
  by_cases hl : 60 < s.length
  · have hd : decide ((60 : Int) < (s.length : Int)) = true := by simp; omega
    clear hr
    go_enter Try.func6, Try.ntmps6
    go_wp2_with (go_at_call 5; refine (known_any17 _).mono ?_; rintro e w1 ⟨rfl, ht⟩)
    go_ret
    exact ⟨rfl, ht⟩
  have hd : decide ((60 : Int) < (s.length : Int)) = false := by simp; omega
  have hl9 : s.length ≤ 1000000000 := by omega
  have hpk := fun w => Pick_any i (8 * (s.length : Int) + 1) w (by omega) (by omega) hi.1 hi.2
  obtain ⟨a0, ha0⟩ := Int.eq_ofNat_of_zero_le (Int.emod_nonneg i (by omega : 8 * (s.length : Int) + 1 ≠ 0))
  have ha1 : a0 ≤ 8 * s.length := by
    have := Int.emod_lt_of_pos i (by omega : 0 < 8 * (s.length : Int) + 1)
    omega
  rw [ha0] at hpk
  clear ha0 hi
  have hG := fun w h => pGet_any w (.slice A s.length c) s h hl9 (a0 : Int) (by omega)
  have hpa : picAll s (a0 : Int) = picN s a0 := by rw [picAll, if_neg (by omega), Int.toNat_natCast]
  rw [hpa] at hG
  clear hpa
  unfold PicEnd at hG
  by_cases h0 : (picN s a0).2.2.2.2 = 0
  · obtain ⟨⟨t, y, l, n, er⟩, hE⟩ : ∃ E, picN s a0 = E := ⟨_, rfl⟩
    rw [hE] at hG h0
    simp only at h0
    subst h0
    obtain ⟨hbits, ht31, hy63, hll, hn⟩ := picN_got hE
    have hroom := hbits.room
    have hlH := picBits_length t y l
    have hbH := picBits_bin t y l
    have eP := putOf_ok ht31 hy63 hll
    have eC := checkOf_ok ht31 hy63 hll
    have hP := fun w v h => pPut_any w (t : Int) (y : Int) v l h
    rw [eP] at hP
    unfold TxtErr at hP
    have hC := fun w A c => pCheck_any w (t : Int) (y : Int) A l.length c
    rw [eC] at hC
    have hlH' : (picBits t y l).length = n := by omega
    have hbit : ∀ j (h : j < (picBits t y l).length), bitAt s (a0 + j) = (picBits t y l)[j]'h := fun j h => hbits.2 j _ (List.getElem?_eq_getElem h)
    have hn8 : a0 + n ≤ 8 * s.length := by omega
    generalize picBits t y l = H at hP hlH hbH hlH' hbit hroom
    have hz1 : ((str (txt H)).size : Int) = (n : Int) := by rw [str_size, txt_length]; omega
    have hz2 : (str (txt H)).size = n := by omega
    have HH := Lib.hid (And.intro hbit (And.intro hbH (And.intro hlH' hr)))
    clear hE hbits hn eP eC hlH hr hbit hbH hroom hll ht31 hy63
    go_enter Try.func6, Try.ntmps6
    go_wp2_with fail
    refine (known_any17 _).mono ?_
    rintro e w1 ⟨rfl, t1⟩
    go_wp2_with fail
    refine (hpk _).mono ?_
    rintro e w' ⟨rfl, rfl⟩
    go_wp2_with fail
    refine (hG _ (HH.out.2.2.2.cells fun p u hp => t1.cell hp (by simp))).mono ?_
    rintro e w2 ⟨u, rfl, hs2, t2⟩
    obtain ⟨Au, cu, rfl, hcu⟩ := hs2.val
    have o2 := t1.trans t2
    clear t1 t2 hpk hG
    go_wp2_with fail
    have o3 := o2.alloc (.cells #[.int .i64 (t : Int), .int .i64 (y : Int), .slice Au l.length cu] 24)
    have hB := Blk.new w2 24 [.int .i64 (t : Int), .int .i64 (y : Int), .slice Au l.length cu]
    refine (hP _ _ (Rd.of_sl (hs2.alloc _))).mono ?_
    rintro e w3 ⟨rfl, t3⟩
    have hB3 := hB.only t3 (by simp)
    have o4 := o3.trans t3
    have k0 := hB3.cell (i := 0) rfl
    have k1 := hB3.cell (i := 1) rfl
    have k2 := hB3.cell (i := 2) rfl
    clear hB t3 o3 o2 hs2 hP
    generalize w2.heap.size = g at hB3 k0 k1 k2 ⊢
    go_wp2_with fail
    refine (hC _ _ _).mono ?_
    rintro e w4 ⟨rfl, t4⟩
    have o5 := o4.trans t4
    clear o4 t4 hC hB3 k0 k1 k2
    go_wp2_with fail
    go_loopw [11] (fun i wr => ∃ k : Nat, k ≤ n ∧ i = .int .i64 (k : Int) ∧ OnlyIn [] w wr) (fun i _ => n - (intOf i).toNat)
    case atStart => exact ⟨0, by omega, rfl, o5⟩
    case round =>
      clear o5
      obtain ⟨k, hk, rfl, hto⟩ := hrel
      by_cases hlt : k < n
      · obtain ⟨hbit, hbH, hlH, hr⟩ := HH.out
        have hjs : k < (str (txt H)).size := by omega
        have hkt : k < (txt H).length := by rw [txt_length]; omega
        have hget := str_get hjs hkt
        have hz := txt_get hbH (by omega : k < H.length) hkt
        have hx := hbH _ (List.getElem_mem (by omega : k < H.length))
        have hb := hbit k (by omega)
        obtain ⟨z, hzz⟩ : ∃ z, H[k]'(by omega) = z := ⟨_, rfl⟩
        rw [hzz] at hz hx hb
        have hv : (((str (txt H))[k]'hjs).toNat : Int) = 48 + (z : Int) := by rw [hget, hz]; push_cast; rfl
        have hrd := Read_ok wr (.slice A s.length c) s (hr.cells fun p u hp => hto.cell hp (by simp)) hl9 (a0 + k) 1 (by omega) (by omega)
        rw [show numAt s (a0 + k) 1 = z by simp [numAt, hb], show ((1 : Nat) : Int) = 1 from rfl, show ((a0 + k : Nat) : Int) = (a0 : Int) + (k : Int) by omega] at hrd
        have hu2 : (48 : Int) + (z : Int) - 48 = (z : Int) := by omega
        have hi3 : IntKind.i64.wrap (48 + (z : Int)) = 48 + (z : Int) := by rw [IntKind.wrap_i64]; omega
        have hi4 : IntKind.i64.wrap (z : Int) = (z : Int) := by rw [IntKind.wrap_i64]; omega
        have hmeas : n - (k + 1) < n - k := by omega
        have hk1 : k + 1 ≤ n := by omega
        have HT := Lib.hid hto
        clear hbit hbH hlH hr hget hz hzz hb hto
        go_wp2_with fail
        refine hrd.mono ?_
        rintro e w5 ⟨rfl, hw5⟩
        subst hw5
        clear hrd
        go_wp2_with fail
        go_roundw
        case rel => exact ⟨k + 1, hk1, by go_num, HT.out⟩
        case measure => simp [intOf]; exact hmeas
      · have hkn : k = n := by omega
        subst hkn
        have HT := Lib.hid hto
        clear hto
        go_wp2_with fail
        go_ret
        exact ⟨rfl, HT.out⟩
  · obtain ⟨hF, herr⟩ := picN_fault h0
    obtain ⟨er, her⟩ : ∃ er, (picN s a0).2.2.2.2 = er := ⟨_, rfl⟩
    rw [her] at hF h0 herr
    rw [hF] at hG
    clear hF her h0
    have HR := Lib.hid hr
    clear hr
    rcases herr with rfl | rfl
    all_goals
      go_enter Try.func6, Try.ntmps6
      go_wp2_with fail
      refine (known_any17 _).mono ?_
      rintro e w1 ⟨rfl, t1⟩
      go_wp2_with fail
      refine (hpk _).mono ?_
      rintro e w' ⟨rfl, rfl⟩
      go_wp2_with fail
      refine (hG _ (HR.out.cells fun p u hp => t1.cell hp (by simp))).mono ?_
      rintro e w2 ⟨u, rfl, hs2, t2⟩
      try simp only [List.length_nil] at hs2
      obtain ⟨Au, cu, rfl, hcu⟩ := hs2.val
      have o2 := t1.trans t2
      clear t1 t2 hpk hG
      go_wp2_with fail
      refine (SameHead_yes _ _ _ _ _ [] (Rd.of_sl (hs2.alloc _)) (Rd.nil _ _)).mono ?_
      rintro e w3 ⟨rfl, t3⟩
      have o3 := (o2.alloc _).trans t3
      clear o2 t3 hs2
      go_wp2_with fail
      go_ret
      exact ⟨rfl, o3⟩
end Go.Proofs.Ytboipjdgccbjmaa
