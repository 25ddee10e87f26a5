/-
  Law 24, OutboxRound: the walk: for every three numbers the call returns true and turns nothing that was there.
-/
import Derived.Test.YtcgbafdagckgcaaOutboxc
namespace Go.Proofs.Ytcgbafdagckgcaa
open Go.RowKit Go.Mine

def pushed (a i : Int) (k : Nat) : List Item := (List.range k).map fun (j : Nat) => ⟨wrap64 (a + (j : Int)), 0, i, 0⟩
theorem pushed_succ (a i : Int) (k : Nat) : pushed a i (k + 1) = pushed a i k ++ [⟨wrap64 (a + (k : Int)), 0, i, 0⟩] := by simp [pushed, List.range_succ]
theorem pushed_len (a i : Int) (k : Nat) : (pushed a i k).length = k := by simp [pushed]
theorem pushed_drop (a i : Int) (k n : Nat) (h : k < n) : (pushed a i n).drop k = ⟨wrap64 (a + (k : Int)), 0, i, 0⟩ :: (pushed a i n).drop (k + 1) := by
  rw [List.drop_eq_getElem_cons (by rw [pushed_len]; exact h)]
  simp [pushed]

set_option maxHeartbeats 1000000 in
theorem Round_walk (a0 : Int) (g0 : -9223372036854775808 ≤ a0 ∧ a0 ≤ 9223372036854775807) (a1 : Int) (g1 : -9223372036854775808 ≤ a1 ∧ a1 ≤ 9223372036854775807) (a2 : Int) (g2 : -9223372036854775808 ≤ a2 ∧ a2 ≤ 9223372036854775807) (w : World) :
    Calls Try.prog 3 #[.int .i64 a0, .int .i64 a1, .int .i64 a2] w fun e w' => e = .returned (.bool true) ∧ OnlyIn [] w w' := by
  obtain ⟨h0, h0'⟩ := g0
  obtain ⟨h1, h1'⟩ := g1
  clear g2
  obtain ⟨N, hN⟩ : ∃ N : Nat, a0 % 12 = (N : Int) - 1 := ⟨(a0 % 12 + 1).toNat, by omega⟩
  obtain ⟨M, hM⟩ : ∃ M : Nat, a1 % 31 = (M : Int) := ⟨(a1 % 31).toNat, by omega⟩
  have hN1 : 1 ≤ N := by omega
  have hN2 : N ≤ 12 := by omega
  have hM2 : M ≤ 30 := by omega
  have HN := Lib.hid hN
  have HM := Lib.hid hM
  clear hN hM
  have hs : (1 : Int) + ((N : Int) - 1) = (N : Int) := by omega
  go_enter Try.func3, Try.ntmps3
  go_wp2_with fail
  refine (awake_any w).mono ?_
  rintro e w1 ⟨rfl, ht1⟩
  go_wp2_with fail
  refine (Pick_any a0 12 w1 (by omega) (by omega) h0 h0').mono ?_
  rintro e w' ⟨rfl, rfl⟩
  rw [HN.out]
  go_wp2_with fail
  refine (Pick_any a1 31 w1 (by omega) (by omega) h1 h1').mono ?_
  rintro e w' ⟨rfl, rfl⟩
  rw [HM.out]
  go_wp2_with fail
  refine (New_ok w1 N hN1 (by omega)).mono ?_
  rintro e w2 ⟨rfl, ho2, ht2⟩
  generalize hb : w1.heap.size + 1 = b at *
  generalize hr : w1.heap.size = r at *
  have hbw : w.heap.size ≤ b := by have := ht1.size; omega
  have hrw : w.heap.size ≤ r := by have := ht1.size; omega
  have ht := ht1.trans ht2
  clear hb hr ht1 ht2 h0 h0' h1 h1'
  go_wp2_with fail
  go_loopw [10] (fun i wr => ∃ k : Nat, k ≤ M + 1 ∧ i = .int .i64 (k : Int) ∧ Ob wr b r N (k * N) [] ∧ OnlyIn [] w wr) (fun i _ => M + 1 - (intOf i).toNat)
  case atStart => exact ⟨0, by omega, rfl, by simpa using ho2, ht⟩
  case round =>
    obtain ⟨k, hk, rfl, ho, ht⟩ := hrel
    have hkN : k * N ≤ 31 * 12 := Nat.mul_le_mul (by omega) hN2
    obtain ⟨wo, rfl⟩ : ∃ wo : World, wo = wr := ⟨_, rfl⟩
    by_cases hlt : k ≤ M
    · go_wp2_with fail
      go_loopw [11] (fun x wi => ∃ j : Nat, j ≤ N ∧ x = .int .i64 (j : Int) ∧ Ob wi b r N (k * N + j) (pushed a2 k j) ∧ OnlyIn [] w wi) (fun x _ => N - (intOf x).toNat)
      case atStart => exact ⟨0, by omega, rfl, ho, ht⟩
      case round =>
        obtain ⟨j, hj, rfl, ho, ht⟩ := hrel
        by_cases hjl : j < N
        · go_wp2_with fail
          refine (Push_room wr ho (by rw [pushed_len]; exact hjl) (by omega) ⟨wrap64 (a2 + (j : Int)), 0, (k : Int), 0⟩).mono ?_
          rintro e w3 ⟨rfl, ho3, ht3⟩
          rw [← pushed_succ] at ho3
          have ht4 := ht.then ht3 (by simp; omega)
          clear ho ht3
          go_wp2_with fail
          go_roundw
          case rel => exact ⟨j + 1, by omega, by go_num, ho3, ht4⟩
          case measure => simp [intOf]; omega
        · obtain rfl : N = j := by omega
          go_wp2_with fail
          refine (Push_full wr ho (pushed_len _ _ _) ⟨0, 0, 0, 0⟩).mono ?_
          rintro e w3 ⟨rfl, ht3⟩
          have ho3 := ho.only ht3 (by simp) (by simp)
          go_wp2_with fail
          refine (Len_any w3 ho3).mono ?_
          rintro e w4 ⟨rfl, hw4⟩
          have ht4 : OnlyIn [] w3 w4 := OnlyIn.of_draws hw4
          have ho4 := ho3.only ht4 (by simp) (by simp)
          have ht5 := (ht.trans ht3).trans ht4
          clear hw4 ht4 ht3 ho3 ho ht
          rw [pushed_len]
          go_wp2_with fail
          go_loopw [12] (fun x wi => ∃ q : Nat, q ≤ N ∧ x = .int .i64 (q : Int) ∧ Ob wi b r N (k * N + N) ((pushed a2 k N).drop q) ∧ OnlyIn [] w wi) (fun x _ => N - (intOf x).toNat)
          case atStart => exact ⟨0, by omega, rfl, by simpa using ho4, ht5⟩
          case round =>
            obtain ⟨q, hq, rfl, ho, ht⟩ := hrel
            by_cases hql : q < N
            · rw [pushed_drop a2 k q N hql] at ho
              go_wp2_with fail
              refine (Pop_ok wr ho).mono ?_
              rintro e w5 ⟨rfl, ho5, ht6⟩
              have ht7 := ht.then ht6 (by simp; omega)
              clear ho ht ht6
              go_wp2_with fail
              go_roundw
              case rel => exact ⟨q + 1, by omega, by go_num, ho5.alloc _, by (repeat (first | (with_reducible assumption) | (with_reducible exact OnlyIn.refl _ _) | (with_reducible refine OnlyIn.setCell ?_ (by first | simp | (simp; omega)) _) | (with_reducible refine OnlyIn.drewN ?_ _) | (with_reducible refine OnlyIn.drew ?_) | (with_reducible refine OnlyIn.alloc ?_ _)))⟩
              case measure => simp [intOf]; omega
            · obtain rfl : N = q := by omega
              rw [List.drop_of_length_le (by rw [pushed_len]; omega)] at ho
              go_wp2_with fail
              refine (pops_empty wr ho).mono ?_
              rintro e w5 ⟨rfl, ht6⟩
              have ho5 := ho.only ht6 (by simp) (by simp)
              have ht7 := ht.trans ht6
              clear ho ht ht6
              go_wp2_with fail
              go_roundw
              case rel => exact ⟨k + 1, by omega, by go_num, by rw [Nat.succ_mul]; exact ho5, ht7⟩
              case measure => simp [intOf]; omega
    · obtain rfl : k = M + 1 := by omega
      go_wp2_with fail
      refine (Ever_any wo ho).mono ?_
      rintro e w3 ⟨rfl, rfl⟩
      have hq : (((M + 1) * N : Nat) : Int) = ((M : Int) + 1) * (N : Int) := by simp
      have hq1 : ((M : Int) + 1) * (N : Int) ≤ 372 := by rw [← hq]; omega
      have hq2 : 0 ≤ ((M : Int) + 1) * (N : Int) := by rw [← hq]; omega
      rw [hq]
      clear hq
      go_wp2_with fail
      go_ret
      exact ⟨by simp, ht⟩

end Go.Proofs.Ytcgbafdagckgcaa
