/-
  Law 01: BitsKnown.
-/
import Derived.Test.YtejomjkkjcnfnaaLaw01
namespace Go.Proofs.Ytejomjkkjcnfnaa
open Go.RowKit Go.Mine

set_option maxRecDepth 100000 in
set_option maxHeartbeats 2000000 in
theorem known_any (w : World) : Calls Try.prog 5 #[] w fun e w' => e = .returned (.bool true) ∧ OnlyIn [] w w' := by
  go_enter Try.func5, Try.ntmps5
  go_wp2_with fail
  refine (Count_any _ _ 2 2 (by decide)).mono ?_
  rintro e w1 ⟨rfl, hw⟩
  have hO1 : OnlyIn [] w w1 := by subst hw; exact (OnlyIn.refl _ _).alloc _
  clear hw
  go_wp2_with fail
  refine (reads_yes _ _ [165] (Rd.lit w1 (byteCells [165]) 5 1 rfl) (by decide) 8 0 0 0 (by decide) (by decide)).mono ?_
  rintro e w2 ⟨rfl, ht⟩
  have hO2 : OnlyIn [] w w2 := (hO1.alloc _).trans ht
  clear ht hO1
  go_wp2_with fail
  refine (reads_yes _ _ [165] (Rd.lit w2 (byteCells [165]) 5 1 rfl) (by decide) 8 1 0 5 (by decide) (by decide)).mono ?_
  rintro e w3 ⟨rfl, ht⟩
  have hO3 : OnlyIn [] w w3 := (hO2.alloc _).trans ht
  clear ht hO2
  go_wp2_with fail
  refine (reads_yes _ _ [165] (Rd.lit w3 (byteCells [165]) 5 1 rfl) (by decide) 0 33 0 3 (by decide) (by decide)).mono ?_
  rintro e w4 ⟨rfl, ht⟩
  have hO4 : OnlyIn [] w w4 := (hO3.alloc _).trans ht
  clear ht hO3
  go_wp2_with fail
  refine (finds_yes _ _ [0, 1] (Rd.lit w4 (byteCells [0, 1]) 5 2 rfl) (by decide) 0 0 0 (by decide)).mono ?_
  rintro e w5 ⟨rfl, ht⟩
  have hO5 : OnlyIn [] w w5 := (hO4.alloc _).trans ht
  clear ht hO4
  go_wp2_with fail
  refine (finds_yes _ _ [0, 0] (Rd.lit w5 (byteCells [0, 0]) 5 2 rfl) (by decide) 0 0 5 (by decide)).mono ?_
  rintro e w6 ⟨rfl, ht⟩
  have hO6 : OnlyIn [] w w6 := (hO5.alloc _).trans ht
  clear ht hO5
  go_wp2_with fail
  refine (finds_yes _ _ [0, 1, 64] (Rd.lit w6 (byteCells [0, 1, 64]) 5 3 rfl) (by decide) 1 0 5 (by decide)).mono ?_
  rintro e w7 ⟨rfl, ht⟩
  have hO7 : OnlyIn [] w w7 := (hO6.alloc _).trans ht
  clear ht hO6
  go_wp2_with fail
  refine (finds_yes _ _ [0, 0, 1] (Rd.lit w7 (byteCells [0, 0, 1]) 5 3 rfl) (by decide) 0 8 0 (by decide)).mono ?_
  rintro e w8 ⟨rfl, ht⟩
  have hO8 : OnlyIn [] w w8 := (hO7.alloc _).trans ht
  clear ht hO7
  go_wp2_with fail
  refine (starts_yes _ _ [0, 0, 1, 80] (Rd.lit w8 (byteCells [0, 0, 1, 80]) 5 4 rfl) (by decide) 0 5 28 0 (by decide)).mono ?_
  rintro e w9 ⟨rfl, ht⟩
  have hO9 : OnlyIn [] w w9 := (hO8.alloc _).trans ht
  clear ht hO8
  go_wp2_with fail
  refine (starts_yes _ _ [0, 1] (Rd.lit w9 (byteCells [0, 1]) 5 2 rfl) (by decide) 0 0 0 5 (by decide)).mono ?_
  rintro e w10 ⟨rfl, ht⟩
  have hO10 : OnlyIn [] w w10 := (hO9.alloc _).trans ht
  clear ht hO9
  go_wp2_with fail
  refine (starts_yes _ _ [0, 2, 0] (Rd.lit w10 (byteCells [0, 2, 0]) 5 3 rfl) (by decide) 0 0 0 7 (by decide)).mono ?_
  rintro e w11 ⟨rfl, ht⟩
  have hO11 : OnlyIn [] w w11 := (hO10.alloc _).trans ht
  clear ht hO10
  go_wp2_with fail
  refine (starts_yes _ _ [0, 0] (Rd.lit w11 (byteCells [0, 0]) 5 2 rfl) (by decide) 0 0 0 5 (by decide)).mono ?_
  rintro e w12 ⟨rfl, ht⟩
  have hO12 : OnlyIn [] w w12 := (hO11.alloc _).trans ht
  clear ht hO11
  go_wp2_with fail
  refine (NewPen_any w12).mono ?_
  rintro e w13 ⟨rfl, hP, ht⟩
  have hO13 : OnlyIn [] w w13 := hO12.trans ht
  have hs13 : w12.heap.size + 1 ≤ w13.heap.size := hP.blk.lt
  generalize hb : w12.heap.size = b at *
  have hbw : w.heap.size ≤ b := by have := hO12.size; omega
  clear ht hO12 hb
  go_wp2_with fail
  refine (Put_ok w13 hP 5 3 (by decide) (by decide) (by decide) hs13).mono ?_
  rintro e w14 ⟨rfl, v1, hP1, ht, _⟩
  have hO14 : OnlyIn [] w w14 := hO13.then ht (by simp [Value.ownBlock]; omega)
  have hs14 : b + 1 ≤ w14.heap.size := Nat.le_trans hs13 ht.size
  clear ht hP hO13 hs13
  go_wp2_with fail
  refine (Code_ok w14 hP1 [48, 48, 49, 49] (by decide) (by decide) hs14).mono ?_
  rintro e w15 ⟨rfl, v2, hP2, ht, hown⟩
  have hO15 : OnlyIn [] w w15 := hO14.then ht (fun j hj => by
    simp only [List.mem_cons, Option.mem_toList] at hj
    rcases hj with hj | hj
    · exact .inr (by omega)
    · have := (hP1.sl.own_lt j hj).1; exact .inr (by omega))
  have hs15 : b + 1 ≤ w15.heap.size := Nat.le_trans hs14 ht.size
  clear ht hP1 hO14 hs14
  have hP2 : PenAt w15 (b + 1) b v2 [1, 0, 1, 0, 0, 1, 1] := hP2
  go_wp2_with fail
  refine (Len_any w15 hP2).mono ?_
  rintro e w16 ⟨rfl, hw⟩
  subst hw
  go_wp2_with fail
  refine (Bytes_any w15 hP2).mono ?_
  rintro e w17 ⟨u, rfl, hu, ht⟩
  have hO17 : OnlyIn [] w w17 := hO15.trans ht
  have hP3 := hP2.only0 ht
  have hru := (Rd.of_sl hu)
  clear ht hP2 hO15 hu
  go_wp2_with fail
  refine (SameBytes_any _ _ _ _ [166] (hru.cells fun p x hp => ((OnlyIn.refl [] w17).alloc _).cell hp (by simp)) (Rd.lit w17 (byteCells [166]) 5 1 rfl)).mono ?_
  rintro e w18 ⟨rfl, hw⟩
  rw [show decide (pack [1, 0, 1, 0, 0, 1, 1] = [166]) = true from by decide]
  have hO18 : OnlyIn [] w w18 := by subst hw; exact hO17.alloc _
  have hP4 : PenAt w18 (b + 1) b v2 [1, 0, 1, 0, 0, 1, 1] := by subst hw; exact hP3.only0 ((OnlyIn.refl _ _).alloc _)
  clear hw hO17 hP3 hru
  go_wp2_with fail
  refine (awake_any w18).mono ?_
  rintro e w19 ⟨rfl, ht⟩
  have hO19 : OnlyIn [] w w19 := hO18.trans ht
  have hP5 := hP4.only0 ht
  clear ht hO18 hP4
  go_wp2_with fail
  refine (Put_range w19 hP5 8 3 (by decide)).mono ?_
  rintro e w20 ⟨rfl, hw⟩
  subst hw
  go_wp2_with fail
  refine (Code_form w19 hP5 [50] (by decide) (by decide)).mono ?_
  rintro e w20 ⟨rfl, hw⟩
  subst hw
  go_wp2_with fail
  refine (Len_any w19 hP5).mono ?_
  rintro e w20 ⟨rfl, hw⟩
  subst hw
  go_wp2_with fail
  go_ret
  exact ⟨rfl, hO19⟩
end Go.Proofs.Ytejomjkkjcnfnaa
