/-
  Law 18: GroupBack: the walk.
-/
import Derived.Test.YtejomjkkjcnfnaaBitsText18
import Derived.Test.YtejomjkkjcnfnaaKit
namespace Go.Mine
open Go.RowKit
theorem spareBits_bin (s : List UInt8) : Bin (spareBits s) := fun x hx => by
  rw [spareBits] at hx
  rcases List.mem_append.1 hx with h | h
  · obtain ⟨a, -, h⟩ := List.mem_flatMap.1 h
    rw [spareOne] at h
    rcases List.mem_cons.1 h with h | h
    · omega
    · exact bitsOf_bin _ _ x h
  · simp at h; omega
theorem headBits_bin (q : Nat) (l : List UInt8) : Bin (headBits q l) := (bitsOf_bin _ _).append (spareBits_bin _)
theorem headOf_ok {q : Nat} {s : List UInt8} (h : 1 ≤ q) (h2 : q ≤ 31) (hs : s.length ≤ 32) : headOf (q : Int) s = (txt (headBits q s), 0) := by
  rw [headOf, if_pos (by omega), Int.toNat_natCast]; rfl
theorem wholeOf_ok {n q : Nat} {s : List UInt8} (hn : 1 ≤ n) (hn2 : n ≤ 15) (h : 1 ≤ q) (h2 : q ≤ 31) (hs : s.length ≤ 32) : wholeOf (n : Int) (q : Int) s = (txt (bitsOf 1 16 ++ bitsOf n 4 ++ headBits q s), 0) := by
  rw [wholeOf, if_pos (by omega), if_pos (by omega), Int.toNat_natCast, Int.toNat_natCast, txt_append]; rfl
theorem bin_zeros (k : Nat) : Bin (List.replicate k 0) := fun x hx => by have := List.eq_of_mem_replicate hx; omega
end Go.Mine
namespace Go.Proofs.Ytejomjkkjcnfnaa
open Go.RowKit Go.Mine

set_option maxRecDepth 100000 in
set_option maxHeartbeats 4000000 in
theorem GroupBack_walk {w : World} (n : Int) (hn : -9223372036854775808 ≤ n ∧ n ≤ 9223372036854775807) (q : Int) (hq : -9223372036854775808 ≤ q ∧ q ≤ 9223372036854775807) (x : Value × List UInt8) (hx : Rd w 1 x.1 x.2.length (byteCells x.2) ∧ x.2.length ≤ maxLen)
    (k : Int) (hk : -9223372036854775808 ≤ k ∧ k ≤ 9223372036854775807) (y : Value × List Int) (hy : Rd w 1 y.1 y.2.length (intCells y.2) ∧ (∀ z ∈ y.2, -9223372036854775808 ≤ z ∧ z ≤ 9223372036854775807) ∧ y.2.length ≤ maxLen) :
    Calls Try.prog 14 #[.int .i64 n, .int .i64 q, x.1, .int .i64 k, y.1] w fun e w' => e = .returned (.bool true) ∧ OnlyIn [] w w' := by
  obtain ⟨v, s⟩ := x
  obtain ⟨u, bh⟩ := y
  obtain ⟨hr, hml⟩ := hx
  obtain ⟨hb, hbx, hbl⟩ := hy
  simp only at hr hml hb hbx hbl ⊢
  have hr' := hr
  obtain ⟨-, A, c, rfl, hc, -⟩ := hr'
  have hb' := hb
  obtain ⟨-, B, d, rfl, hd, -⟩ := hb'
  have p1 := fun w => Pick_any n 15 w (by omega) (by omega) hn.1 hn.2
  have p2 := fun w => Pick_any q 31 w (by omega) (by omega) hq.1 hq.2
  have p3 := fun w => Pick_any k 41 w (by omega) (by omega) hk.1 hk.2
  obtain ⟨n0, hn0⟩ := Int.eq_ofNat_of_zero_le (by omega : 0 ≤ n % 15)
  obtain ⟨q0, hq0⟩ := Int.eq_ofNat_of_zero_le (by omega : 0 ≤ q % 31)
  obtain ⟨k0, hk0⟩ := Int.eq_ofNat_of_zero_le (by omega : 0 ≤ k % 41)
  have hn1 : n0 < 15 := by omega
  have hq1 : q0 < 31 := by omega
  have hk1 : k0 < 41 := by omega
  rw [hn0] at p1
  rw [hq0] at p2
  rw [hk0] at p3
  have hwn : IntKind.i64.wrap (1 + (n0 : Int)) = 1 + (n0 : Int) := by rw [IntKind.wrap_i64]; omega
  have hwq : IntKind.i64.wrap (1 + (q0 : Int)) = 1 + (q0 : Int) := by rw [IntKind.wrap_i64]; omega
  clear hn0 hq0 hk0 hn hq hk
  by_cases hlong : s.length ≤ 32 ∧ bh.length ≤ 60
  · obtain ⟨hl, hl2⟩ := hlong
    have eP := headOf_ok (q := q0 + 1) (s := s) (by omega) (by omega) hl
    have eW := wholeOf_ok (n := n0 + 1) (q := q0 + 1) (s := s) (by omega) (by omega) (by omega) (by omega) hl
    rw [show ((q0 + 1 : Nat) : Int) = 1 + (q0 : Int) by omega] at eP eW
    rw [show ((n0 + 1 : Nat) : Int) = 1 + (n0 : Int) by omega] at eW
    have hP := fun w h => gPut_any w (1 + (q0 : Int)) (.slice A s.length c) s h (by omega)
    have hW := fun w h => gWhole_any w (1 + (n0 : Int)) (1 + (q0 : Int)) (.slice A s.length c) s h (by omega)
    rw [eP] at hP
    rw [eW] at hW
    unfold TextErr at hP hW
    have hbH := headBits_bin (q0 + 1) s
    have hlH := headBits_length (q0 + 1) s
    have hbW : Bin (bitsOf 1 16 ++ bitsOf (n0 + 1) 4 ++ headBits (q0 + 1) s) := ((bitsOf_bin _ _).append (bitsOf_bin _ _)).append hbH
    have hlW : (bitsOf 1 16 ++ bitsOf (n0 + 1) 4 ++ headBits (q0 + 1) s).length = 20 + (6 + 9 * s.length) := by rw [List.length_append, List.length_append, bitsOf_length, bitsOf_length, hlH]
    have gP : getAll (pack (List.replicate 0 0 ++ headBits (q0 + 1) s ++ odds bh)) 0 = (q0 + 1, s, 6 + 9 * s.length, 0) := by
      rw [getAll, if_neg (by omega)]
      exact getN_put (BitsAt.pack (((bin_zeros 0).append hbH).append (odds_bin _))) (by omega) (by omega) hl
    have gW : openAll (pack (List.replicate k0 0 ++ (bitsOf 1 16 ++ bitsOf (n0 + 1) 4 ++ headBits (q0 + 1) s) ++ odds bh)) 0 = (((n0 + 1 : Nat) : Int), q0 + 1, s, ((k0 + (20 + (6 + 9 * s.length)) : Nat) : Int), 0) :=
      openAll_put (BitsAt.pack (P := []) (((bin_zeros k0).append hbW).append (odds_bin _))) (by omega) (by omega) (by omega) (by omega) hl
    generalize headBits (q0 + 1) s = H at hP hW hbH hlH hbW hlW gP gW
    generalize bitsOf 1 16 ++ bitsOf (n0 + 1) 4 ++ H = Wl at hW hbW hlW gW
    have b1 := fun w => bits18_any w H hbH (by omega)
    have b2 := fun w => bits18_any w Wl hbW (by omega)
    have y1 := fun w h => bytes18_any w 0 H hbH (by omega) (by omega) (.slice B bh.length d) bh h hbx (by omega)
    have y2 := fun w h => bytes18_any w k0 Wl hbW (by omega) (by omega) (.slice B bh.length d) bh h hbx (by omega)
    have hpl1 := pack_length (List.replicate 0 0 ++ H ++ odds bh)
    have hpl2 := pack_length (List.replicate k0 0 ++ Wl ++ odds bh)
    simp only [List.length_append, List.length_replicate, odds_length] at hpl1 hpl2
    generalize pack (List.replicate 0 0 ++ H ++ odds bh) = X1 at gP y1 hpl1
    generalize pack (List.replicate k0 0 ++ Wl ++ odds bh) = X2 at gW y2 hpl2
    have hz1 : ((str (txt H)).size : Int) = 6 + 9 * (s.length : Int) := by rw [str_size, txt_length]; omega
    have hz2 : ((str (txt Wl)).size : Int) = 20 + (6 + 9 * (s.length : Int)) := by rw [str_size, txt_length]; omega
    have hx1 : X1.length ≤ 1000000000 := by omega
    have hx2 : X2.length ≤ 1000000000 := by omega
    have hd : decide ((32 : Int) < (s.length : Int)) = false := by simp; omega
    have hd2 : decide ((60 : Int) < (bh.length : Int)) = false := by simp; omega
    obtain ⟨tH, htH⟩ : ∃ t, str (txt H) = t := ⟨_, rfl⟩
    obtain ⟨tW, htW⟩ : ∃ t, str (txt Wl) = t := ⟨_, rfl⟩
    simp only [htH] at hP b1 y1 hz1
    simp only [htW] at hW b2 y2 hz2
    have HG := Lib.hid (And.intro gP gW)
    have HR := Lib.hid (And.intro hr hb)
    clear htH htW hpl1 hpl2 hbH hbW hlH hlW gP gW eP eW hbx hml hbl hr hb
    go_enter Try.func14, Try.ntmps14
    go_wp2_with fail
    refine (known_any18 _).mono ?_
    rintro e w1 ⟨rfl, t1⟩
    go_wp2_with fail
    refine (p1 _).mono ?_
    rintro e w' ⟨rfl, rfl⟩
    go_wp2_with fail
    refine (p2 _).mono ?_
    rintro e w' ⟨rfl, rfl⟩
    go_wp2_with fail
    refine (p3 _).mono ?_
    rintro e w' ⟨rfl, rfl⟩
    go_wp2_with fail
    refine (hP _ (HR.out.1.cells fun p u hp => t1.cell hp (by simp))).mono ?_
    rintro e w' ⟨rfl, rfl⟩
    go_wp2_with fail
    refine (hW _ (HR.out.1.cells fun p u hp => t1.cell hp (by simp))).mono ?_
    rintro e w' ⟨rfl, rfl⟩
    go_wp2_with fail
    refine (b1 _).mono ?_
    rintro e w' ⟨rfl, rfl⟩
    go_wp2_with fail
    refine (b2 _).mono ?_
    rintro e w' ⟨rfl, rfl⟩
    go_wp2_with fail
    refine (y1 _ (HR.out.2.cells fun p u hp => t1.cell hp (by simp))).mono ?_
    rintro e w2 ⟨u2, rfl, h2, t2⟩
    have o2 := t1.trans t2
    clear t1 t2
    go_wp2_with fail
    refine (gets_yes18 _ _ X1 h2 hx1 _ s (HR.out.1.cells fun p u hp => o2.cell hp (by simp)) _ _ _ (by rw [HG.out.1]; refine ⟨?_, rfl, ?_, rfl⟩ <;> simp only <;> push_cast <;> omega)).mono ?_
    rintro e w3 ⟨rfl, t3⟩
    have o3 := o2.trans t3
    clear o2 t3 h2
    go_wp2_with fail
    refine (y2 _ (HR.out.2.cells fun p u hp => o3.cell hp (by simp))).mono ?_
    rintro e w4 ⟨u4, rfl, h4, t4⟩
    have o4 := o3.trans t4
    clear o3 t4
    go_wp2_with fail
    refine (opens_yes18 _ _ X2 h4 hx2 _ s (HR.out.1.cells fun p u hp => o4.cell hp (by simp)) _ _ _ _ (by rw [HG.out.2]; refine ⟨?_, ?_, rfl, ?_, rfl⟩ <;> simp only <;> push_cast <;> omega)).mono ?_
    rintro e w5 ⟨rfl, t5⟩
    have o5 := o4.trans t5
    clear o4 t5 h4
    go_wp2_with fail
    go_ret
    exact ⟨rfl, o5⟩
  · have hdec : (32 : Int) < (s.length : Int) ∨ (60 : Int) < (bh.length : Int) := by omega
    clear hr hb hbx hml hbl
    by_cases hs : (32 : Int) < (s.length : Int)
    · have hd : decide ((32 : Int) < (s.length : Int)) = true := by simp; omega
      clear hdec hlong
      go_enter Try.func14, Try.ntmps14
      go_wp2_with fail
      refine (known_any18 _).mono ?_
      rintro e w1 ⟨rfl, t1⟩
      go_wp2_with fail
      refine (p1 _).mono ?_
      rintro e w' ⟨rfl, rfl⟩
      go_wp2_with fail
      refine (p2 _).mono ?_
      rintro e w' ⟨rfl, rfl⟩
      go_wp2_with fail
      refine (p3 _).mono ?_
      rintro e w' ⟨rfl, rfl⟩
      go_wp2_with fail
      go_ret
      exact ⟨rfl, t1⟩
    · have hd : decide ((32 : Int) < (s.length : Int)) = false := by simp; omega
      have hd2 : decide ((60 : Int) < (bh.length : Int)) = true := by simp; omega
      clear hdec hlong
      go_enter Try.func14, Try.ntmps14
      go_wp2_with fail
      refine (known_any18 _).mono ?_
      rintro e w1 ⟨rfl, t1⟩
      go_wp2_with fail
      refine (p1 _).mono ?_
      rintro e w' ⟨rfl, rfl⟩
      go_wp2_with fail
      refine (p2 _).mono ?_
      rintro e w' ⟨rfl, rfl⟩
      go_wp2_with fail
      refine (p3 _).mono ?_
      rintro e w' ⟨rfl, rfl⟩
      go_wp2_with fail
      go_ret
      exact ⟨rfl, t1⟩
end Go.Proofs.Ytejomjkkjcnfnaa
