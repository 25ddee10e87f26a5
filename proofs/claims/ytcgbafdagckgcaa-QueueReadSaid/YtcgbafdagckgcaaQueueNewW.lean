/-
  Law 02: QueueNew: the walk.
-/
import Derived.Test.YtcgbafdagckgcaaLaw02
import Derived.Test.YtcgbafdagckgcaaKit
namespace Go.Mine
open Go.RowKit
/-- What is read lies in an old block. -/
theorem Rd.old {w : World} {v : Value} {bs : List UInt8} (h : Rd w 1 v bs.length (byteCells bs)) {r : Nat} (hr : w.heap.size ≤ r) : 0 < bs.length → v.ownBlock ≠ some r := by
  intro hp he
  obtain ⟨-, A, c, rfl, hc, hA⟩ := h
  obtain ⟨g, off, rfl, hg⟩ := hA hp
  have := World.block_lt_of_cell? w _ (hg 0 _ (byteCells_get hp))
  simp [Value.ownBlock] at he
  simp at this
  omega
end Go.Mine
namespace Go.Proofs.Ytcgbafdagckgcaa
open Go.RowKit Go.Mine

set_option maxRecDepth 100000 in
set_option maxHeartbeats 4000000 in
theorem QueueNew_walk {w : World} (most : Int) (hm : -9223372036854775808 ≤ most ∧ most ≤ 9223372036854775807) (x : Value × List UInt8) (hx : Rd w 1 x.1 x.2.length (byteCells x.2) ∧ x.2.length ≤ maxLen)
    (y : Value × List UInt8) (hy : Rd w 1 y.1 y.2.length (byteCells y.2) ∧ y.2.length ≤ maxLen) (st : Int) (hst : -9223372036854775808 ≤ st ∧ st ≤ 9223372036854775807) :
    Calls Try.prog 8 #[.int .i64 most, x.1, y.1, .int .i64 st] w fun e w' => e = .returned (.bool true) ∧ OnlyIn [] w w' := by
  obtain ⟨v, s⟩ := x
  obtain ⟨u, bs⟩ := y
  obtain ⟨hr, hml⟩ := hx
  obtain ⟨hb, hmb⟩ := hy
  simp only at hr hml hb hmb ⊢
  have hr' := hr
  obtain ⟨-, A, c, rfl, hc, -⟩ := hr'
  have hb' := hb
  obtain ⟨-, B, d, rfl, hd, -⟩ := hb'
  have p1 := fun w => Pick_any most 40 w (by omega) (by omega) hm.1 hm.2
  have p2 := fun w => Pick_any st 20 w (by omega) (by omega) hst.1 hst.2
  obtain ⟨n0, hn0⟩ := Int.eq_ofNat_of_zero_le (by omega : 0 ≤ most % 40)
  obtain ⟨s0, hs0⟩ := Int.eq_ofNat_of_zero_le (by omega : 0 ≤ st % 20)
  have hn1 : n0 < 40 := by omega
  have hs1 : s0 < 20 := by omega
  rw [hn0] at p1
  rw [hs0] at p2
  have hwn : IntKind.i64.wrap (1 + (n0 : Int)) = 1 + (n0 : Int) := by rw [IntKind.wrap_i64]; omega
  have hws : IntKind.i64.wrap (1 + (s0 : Int)) = 1 + (s0 : Int) := by rw [IntKind.wrap_i64]; omega
  have hnew := fun W => qNew_ok W (n0 + 1) (by omega) (by omega)
  rw [show ((n0 + 1 : Nat) : Int) = 1 + (n0 : Int) by omega] at hnew
  clear hn0 hs0 hm hst
  by_cases hlong : s.length ≤ 40 ∧ bs.length ≤ 80
  · obtain ⟨hl, hl2⟩ := hlong
    have hd1 : decide ((40 : Int) < (s.length : Int)) = false := by simp; omega
    have hd2 : decide ((80 : Int) < (bs.length : Int)) = false := by simp; omega
    have HR := Lib.hid (And.intro hr hb)
    clear hr hb hml hmb
    go_enter Try.func8, Try.ntmps8
    go_wp2_with fail
    refine (awake_any02 _).mono ?_
    rintro e w1 ⟨rfl, t1⟩
    go_wp2_with fail
    refine (p1 _).mono ?_
    rintro e w' ⟨rfl, rfl⟩
    go_wp2_with fail
    refine (p2 _).mono ?_
    rintro e w' ⟨rfl, rfl⟩
    go_wp2_with fail
    refine (hnew _).mono ?_
    rintro e w2 ⟨rfl, hq2, t2⟩
    have o2 := t1.trans t2
    have hw1 : w.heap.size ≤ w1.heap.size := t1.size
    clear p1 p2 hnew t1 t2
    obtain ⟨r, hre⟩ : ∃ r, w1.heap.size = r := ⟨_, rfl⟩
    obtain ⟨b, hbe⟩ : ∃ b, w1.heap.size + 1 = b := ⟨_, rfl⟩
    rw [hbe, hre] at hq2
    rw [hbe]
    have hwr : w.heap.size ≤ r := by omega
    have hwb : w.heap.size ≤ b := by omega
    obtain ⟨N, hN⟩ : ∃ N, n0 + 1 = N := ⟨_, rfl⟩
    rw [hN] at hq2
    have hNi : 1 + (n0 : Int) = (N : Int) := by omega
    have hN1 : 1 ≤ N ∧ N ≤ 40 := by omega
    clear hre hbe
    have hf := qFeed_ok w2 hq2 (.slice A s.length c) s (HR.out.1.cells fun p u hp => o2.cell hp (by simp)) (Rd.old HR.out.1 hwr) (by omega) (by omega)
    have HQ := Lib.hid o2
    clear hq2 o2
    go_wp2_with fail
    refine hf.mono ?_
    rintro e w3 ⟨rfl, hq3, t3⟩
    have o3 : OnlyIn [] w w3 := HQ.out.then t3 (by simp; omega)
    clear hf t3 HQ
    have hx3 : ([] ++ s.take (N - ([] : List UInt8).length)).length ≤ 40 := by simp; omega
    have hc3 : 0 + min s.length (N - ([] : List UInt8).length) ≤ 40 := by omega
    have HQ := Lib.hid (And.intro hq3 o3)
    clear hq3 o3
    go_wp2_with fail
    go_loopw [12] (fun i wr => ∃ (k f : Nat) (xs : List UInt8) (p came gone : Nat), i = .int .i64 (k : Int) ∧ Qu wr b r N f xs p came gone false ∧ k + (8 * xs.length - p) ≤ 320 ∧ came ≤ 40 ∧ gone + (8 * xs.length - p) ≤ 320 ∧ OnlyIn [] w wr) (fun i _ => 400 - (intOf i).toNat)
    case atStart => exact ⟨0, _, _, _, _, _, rfl, HQ.out.1, by omega, hc3, by omega, HQ.out.2⟩
    case round =>
      clear HQ hx3 hc3
      obtain ⟨k, f, xs, p, came, gone, rfl, hq, hkR, hcm, hgn, hto⟩ := hrel
      have hp8 := hq.pl
      have hp2 := hq.pl2
      have hleft := fun W hW => qLeft_any W (hq.only (S := []) (w' := W) hW (by simp) (by simp))
      obtain ⟨R, hRe⟩ : ∃ R : Nat, 8 * xs.length - p = R := ⟨_, rfl⟩
      rw [show 8 * (xs.length : Int) - (p : Int) = (R : Int) by omega] at hleft
      have hk400 : (k : Int) < 400 := by omega
      by_cases hR0 : 0 < R
      · obtain ⟨m, hme⟩ : ∃ m, min (s0 + 1) R = m := ⟨_, rfl⟩
        have hmn : min (1 + (s0 : Int)) (R : Int) = (m : Int) := by omega
        have hmn2 : (if (R : Int) < 1 + (s0 : Int) then (R : Int) else 1 + (s0 : Int)) = (m : Int) := by split <;> omega
        have hm1 : 1 ≤ m := by omega
        have hmR : m ≤ R := by omega
        have hskip := fun W hW => qSkip_ok W (hq.only (S := []) (w' := W) hW (by simp) (by simp)) m (by omega) (by omega)
        have hRi : (0 : Int) < (R : Int) := by omega
        have HH := Lib.hid (And.intro hto (And.intro hRe (And.intro hkR (And.intro hgn hme))))
        have hmeas : 400 - (k + 1) < 400 - k := by omega
        clear hto hRe hq hkR hgn hme
        go_wp2_with fail
        refine (hleft _ (OnlyIn.refl _ _)).mono ?_
        rintro e w4 ⟨rfl, k4, hw4⟩
        have t4 : OnlyIn [] wr w4 := by rw [hw4]; exact (OnlyIn.refl _ _).drewN k4
        clear hw4
        go_wp2_with fail
        refine (hleft _ t4).mono ?_
        rintro e w5 ⟨rfl, k5, hw5⟩
        have t5 : OnlyIn [] wr w5 := by rw [hw5]; exact t4.drewN k5
        clear hw5 t4
        go_wp2_with fail
        refine (hskip _ t5).mono ?_
        rintro e w6 ⟨rfl, hq6, t6⟩
        obtain ⟨hto, hRe, hkR, hgn, hme⟩ := HH.out
        have o6 : OnlyIn [] w w6 := (hto.trans t5).then t6 (by simp; omega)
        have hl6 : 8 * (xs.drop ((p + m) / 8)).length - (p + m) % 8 = R - m := by rw [List.length_drop]; omega
        have HF := Lib.hid (And.intro hq6 (And.intro (show k + 1 + (8 * (xs.drop ((p + m) / 8)).length - (p + m) % 8) ≤ 320 by rw [hl6]; omega) (And.intro hcm (And.intro (show gone + m + (8 * (xs.drop ((p + m) / 8)).length - (p + m) % 8) ≤ 320 by rw [hl6]; omega) o6))))
        clear hto hRe hkR hgn hme hq6 t6 t5 o6 hl6 hleft hskip HH
        go_wp2_with fail
        go_roundw
        case rel => exact ⟨k + 1, _, _, _, _, _, by go_num, HF.out⟩
        case measure => simp [intOf]; omega
      · obtain rfl : R = 0 := by omega
        obtain rfl : p = 0 := by omega
        have hx0 : xs.length = 0 := by omega
        have hxs := List.length_eq_zero_iff.1 hx0
        subst hxs
        have hfree := fun W hW => qFree_any W (hq.only (S := []) (w' := W) hW (by simp) (by simp))
        rw [show (N : Int) - (([] : List UInt8).length : Int) = (N : Int) by simp] at hfree
        obtain ⟨n, hne⟩ : ∃ n, min bs.length N = n := ⟨_, rfl⟩
        have hmx : (n = N ∧ (N : Int) < (bs.length : Int)) ∨ (n = bs.length ∧ ¬ (N : Int) < (bs.length : Int)) := by omega
        have hfeed := fun W (hW : OnlyIn [] wr W) => feeds_yes W (hq.only (S := []) (w' := W) hW (by simp) (by simp)) (.slice B bs.length d) bs (HR.out.2.cells fun p u hp => (hto.trans hW).cell hp (by simp)) (Rd.old HR.out.2 hwr) (by omega) (by omega) (n : Int) (by simp; omega)
        have hnl : n ≤ bs.length := by omega
        have hnd : n ≤ d := by omega
        have htk : bs.take n = bs.take N := by
          rcases Nat.lt_or_ge bs.length N with h1 | h1
          · rw [List.take_of_length_le (by omega), List.take_of_length_le (by omega)]
          · rw [show n = N by omega]
        have hlk : (bs.take N).length = n := by rw [List.length_take]; omega
        have HH := Lib.hid (And.intro hto (And.intro htk (And.intro hlk hne)))
        have hn80 : n ≤ 80 := by omega
        clear hto hq htk hlk hne hkR hgn
        rcases hmx with ⟨hnN, hlt2⟩ | ⟨hnN, hlt2⟩
        all_goals
          rw [hnN] at hfeed
          have HN := Lib.hid hnN
          clear hnN
          go_wp2_with fail
          refine (hleft _ (OnlyIn.refl _ _)).mono ?_
          rintro e w4 ⟨rfl, k4, hw4⟩
          have t4 : OnlyIn [] wr w4 := by rw [hw4]; exact (OnlyIn.refl _ _).drewN k4
          clear hw4
          go_wp2_with fail
          refine (hleft _ t4).mono ?_
          rintro e w5 ⟨rfl, k5, hw5⟩
          have t5 : OnlyIn [] wr w5 := by rw [hw5]; exact t4.drewN k5
          clear hw5 t4
          go_wp2_with fail
          refine (hfree _ t5).mono ?_
          rintro e w6 ⟨rfl, t6'⟩
          have t6 := t5.trans t6'
          clear t6' t5 hleft hfree
          go_wp2_with fail
          refine (hfeed _ t6).mono ?_
          rintro e w7 ⟨rfl, hq7, t7⟩
          obtain ⟨hto, htk, hlk, hne⟩ := HH.out
          have o7 : OnlyIn [] w w7 := (hto.trans t6).then t7 (by simp; omega)
          have hq7 : Qu w7 b r N f (bs.take N) 0 (came + min bs.length (N - ([] : List UInt8).length)) gone false := by simpa using hq7
          have hrt := Rd.take (HR.out.2.cells (w' := w7) fun p u hp => o7.cell hp (by simp)) hnl hnd
          rw [htk, ← hlk] at hrt
          have hhas := has_yes w7 hq7 (.slice B n d) (by rw [← hlk] ; exact hrt) 0 rfl
          have hleft7 := fun W hW => qLeft_any W (hq7.only (S := []) (w' := W) hW (by simp) (by simp))
          rw [hlk, show 8 * (n : Int) - ((0 : Nat) : Int) = 8 * (n : Int) by simp] at hleft7
          rw [HN.out] at hhas hleft7
          clear hto htk hlk hne hfeed t6 t7 hq7 hrt HH
          go_wp2_with fail
          refine hhas.mono ?_
          rintro e w8 ⟨rfl, t8⟩
          have o8 := o7.trans t8
          clear hhas o7
          go_wp2_with fail
          refine (hleft7 _ t8).mono ?_
          rintro e w9 ⟨rfl, k9, hw9⟩
          have o9 : OnlyIn [] w w9 := by rw [hw9]; exact o8.drewN k9
          clear hw9 hleft7 t8
          go_wp2_with fail
          go_ret
          exact ⟨rfl, o9⟩
  · have hdec : (40 : Int) < (s.length : Int) ∨ (80 : Int) < (bs.length : Int) := by omega
    clear hr hb hml hmb
    by_cases hs : (40 : Int) < (s.length : Int)
    · have hd1 : decide ((40 : Int) < (s.length : Int)) = true := by simp; omega
      clear hdec hlong
      go_enter Try.func8, Try.ntmps8
      go_wp2_with fail
      refine (awake_any02 _).mono ?_
      rintro e w1 ⟨rfl, t1⟩
      go_wp2_with fail
      refine (p1 _).mono ?_
      rintro e w' ⟨rfl, rfl⟩
      go_wp2_with fail
      refine (p2 _).mono ?_
      rintro e w' ⟨rfl, rfl⟩
      go_wp2_with fail
      refine (hnew _).mono ?_
      rintro e w2 ⟨rfl, hq2, t2⟩
      go_wp2_with fail
      go_ret
      exact ⟨rfl, t1.trans t2⟩
    · have hd1 : decide ((40 : Int) < (s.length : Int)) = false := by simp; omega
      have hd2 : decide ((80 : Int) < (bs.length : Int)) = true := by simp; omega
      clear hdec hlong
      go_enter Try.func8, Try.ntmps8
      go_wp2_with fail
      refine (awake_any02 _).mono ?_
      rintro e w1 ⟨rfl, t1⟩
      go_wp2_with fail
      refine (p1 _).mono ?_
      rintro e w' ⟨rfl, rfl⟩
      go_wp2_with fail
      refine (p2 _).mono ?_
      rintro e w' ⟨rfl, rfl⟩
      go_wp2_with fail
      refine (hnew _).mono ?_
      rintro e w2 ⟨rfl, hq2, t2⟩
      go_wp2_with fail
      go_ret
      exact ⟨rfl, t1.trans t2⟩
end Go.Proofs.Ytcgbafdagckgcaa
