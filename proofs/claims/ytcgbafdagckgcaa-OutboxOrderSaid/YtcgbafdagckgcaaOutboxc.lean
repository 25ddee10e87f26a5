/-
  Law 24: two, pops, awake.
-/
import Derived.Test.YtcgbafdagckgcaaOutboxb
import Derived.Test.YtcgbafdagckgcaaKit
namespace Go.Proofs.Ytcgbafdagckgcaa
open Go.RowKit Go.Mine

set_option maxRecDepth 100000 in
theorem two_any (w : World) :
    Calls Try.prog 31 #[] w fun e w' => ∃ b r, e = .returned (.pointer (some ⟨b, 0, none⟩)) ∧ Ob w' b r 2 2 [⟨7, 0, 0, 0⟩, ⟨8, 0, 0, 0⟩] ∧ w.heap.size ≤ b ∧ w.heap.size ≤ r ∧ OnlyIn [] w w' := by
  go_enter Try.func31, Try.ntmps31
  go_wp2_with fail
  refine (New_ok w 2 (by omega) (by omega)).mono ?_
  rintro e w1 ⟨rfl, ho1, ht1⟩
  go_wp2_with fail
  refine (Push_room w1 ho1 (by simp) (by omega) ⟨7, 0, 0, 0⟩).mono ?_
  rintro e w2 ⟨rfl, ho2, ht2⟩
  go_wp2_with fail
  refine (Push_room w2 ho2 (by simp) (by omega) ⟨8, 0, 0, 0⟩).mono ?_
  rintro e w3 ⟨rfl, ho3, ht3⟩
  go_wp2_with fail
  refine (Push_full w3 ho3 (by simp) ⟨9, 0, 0, 0⟩).mono ?_
  rintro e w4 ⟨rfl, ht4⟩
  have ho4 := ho3.only ht4 (by simp) (by simp)
  go_wp2_with fail
  refine (Len_any w4 ho4).mono ?_
  rintro e w5 ⟨rfl, hw5⟩
  have ht5 : OnlyIn [] w4 w5 := OnlyIn.of_draws hw5
  have ho5 := ho4.only ht5 (by simp) (by simp)
  clear hw5
  go_wp2_with fail
  refine (Room_any w5 ho5).mono ?_
  rintro e w6 ⟨rfl, hw6⟩
  have ht6 : OnlyIn [] w5 w6 := OnlyIn.of_draws hw6
  have ho6 := ho5.only ht6 (by simp) (by simp)
  clear hw6
  go_wp2_with fail
  refine (Ever_any w6 ho6).mono ?_
  rintro e w7 ⟨rfl, rfl⟩
  go_wp2_with fail
  go_ret
  exact ⟨_, _, rfl, ho6, by simp, by simp, ((((((ht1.then ht2 (by simp)).then ht3 (by simp)).trans ht4).trans ht5).trans ht6))⟩

set_option maxRecDepth 100000 in
theorem pops_ok (w : World) {b r N came : Nat} {l : List Item} (fr : Int) (h : Ob w b r N came (⟨fr, 0, 0, 0⟩ :: l)) :
    Calls Try.prog 19 #[.pointer (some ⟨b, 0, none⟩), .int .i64 fr, .int .i64 0] w fun e w' => e = .returned (.bool true) ∧ Ob w' b r N came l ∧ OnlyIn [b] w w' := by
  go_enter Try.func19, Try.ntmps19
  go_wp2_with fail
  refine (Pop_ok w h).mono ?_
  rintro e w1 ⟨rfl, ho1, ht1⟩
  go_wp2_with fail
  go_ret
  refine ⟨by simp, ho1.alloc _, ?_⟩
  (repeat (first | (with_reducible assumption) | (with_reducible exact OnlyIn.refl _ _) | (with_reducible refine OnlyIn.setCell ?_ (by first | simp | (simp; omega)) _) | (with_reducible refine OnlyIn.drewN ?_ _) | (with_reducible refine OnlyIn.drew ?_) | (with_reducible refine OnlyIn.alloc ?_ _)))

set_option maxRecDepth 100000 in
theorem pops_empty (w : World) {b r N came : Nat} (h : Ob w b r N came []) :
    Calls Try.prog 19 #[.pointer (some ⟨b, 0, none⟩), .int .i64 0, .int .i64 16] w fun e w' => e = .returned (.bool true) ∧ OnlyIn [] w w' := by
  go_enter Try.func19, Try.ntmps19
  go_wp2_with fail
  refine (Pop_empty w h).mono ?_
  rintro e w1 ⟨rfl, ht1⟩
  go_wp2_with fail
  go_ret
  refine ⟨by simp, ?_⟩
  (repeat (first | (with_reducible assumption) | (with_reducible exact OnlyIn.refl _ _) | (with_reducible refine OnlyIn.setCell ?_ (by first | simp | (simp; omega)) _) | (with_reducible refine OnlyIn.drewN ?_ _) | (with_reducible refine OnlyIn.drew ?_) | (with_reducible refine OnlyIn.alloc ?_ _)))

set_option maxRecDepth 100000 in
theorem awake_any (w : World) : Calls Try.prog 13 #[] w fun e w' => e = .returned (.bool true) ∧ OnlyIn [] w w' := by
  go_enter Try.func13, Try.ntmps13
  go_wp2_with fail
  refine (two_any w).mono ?_
  rintro e w1 ⟨b, r, rfl, ho1, hb, hr, ht1⟩
  go_wp2_with fail
  refine (pops_ok w1 7 ho1).mono ?_
  rintro e w2 ⟨rfl, ho2, ht2⟩
  go_wp2_with fail
  refine (Room_any w2 ho2).mono ?_
  rintro e w3 ⟨rfl, hw3⟩
  have ht3 : OnlyIn [] w2 w3 := OnlyIn.of_draws hw3
  clear hw3
  go_wp2_with fail
  go_ret
  exact ⟨by simp, (ht1.then ht2 (by simp; omega)).trans ht3⟩

end Go.Proofs.Ytcgbafdagckgcaa
