/-
  Law 28: PressKnown: the walk.
-/
import Derived.Test.YtmbnmhcfafgnaaaLaw28
namespace Go.Proofs.Ytmbnmhcfafgnaaa
open Go.RowKit Go.Mine

theorem checkF_lit {l : List Holder} {z : Int} (h : (OkH l ∧ z = 0) ∨ (¬ OkH l ∧ z = 2)) : checkF l = z := by
  rcases h with ⟨h, rfl⟩ | ⟨h, rfl⟩
  · exact checkF_ok h
  · exact checkF_bad h

set_option maxRecDepth 100000 in
set_option maxHeartbeats 4000000 in
theorem known28 (w : World) : Calls Try.prog 4 #[] w fun e w' => e = .returned (.bool true) ∧ OnlyIn [] w w' := by
  go_enter Try.func4, Try.ntmps4
  go_wp2_with fail
  refine (known28_v _ w (OnlyIn.refl [] w) [1, 0] 0 16 (by decide) (victim_lit (v := []) (by decide) vi1)).mono ?_
  rintro e w1 ⟨rfl, o1⟩
  go_wp2_with fail
  refine (victim28_yes _ none 0 0 [] (Rd.nil _ 1) rfl (by decide) (by decide) 0 16 (victim_lit (v := []) (by decide) vi0)).mono ?_
  rintro e w2 ⟨rfl, t2⟩
  have o2 := o1.trans t2
  clear t2 o1
  go_wp2_with fail
  refine (known28_v _ w o2 [1, 1, 1, 2] 0 2 (by decide) (victim_bad (by decide))).mono ?_
  rintro e w3 ⟨rfl, o3⟩
  clear o2
  go_wp2_with fail
  refine (known28_of _ w o3 [3, 2, 1, 5] 2 rfl (by decide)).mono ?_
  rintro e w4 ⟨B4, d4, rfl, hd4, hr4, o4⟩
  clear o3
  go_wp2_with fail
  refine (plans_yes _ B4 2 d4 _ hr4 rfl hd4 9 7 _ [] (Rd.nil _ 1) 9 0 ((plan_lit (v := [⟨1, 5⟩, ⟨3, 2⟩]) (by decide) vi2).trans (by decide))).mono ?_
  rintro e w5 ⟨rfl, t5⟩
  have o5 := o4.trans t5
  clear t5 hr4 o4
  go_wp2_with fail
  refine (known28_of _ w o5 [3, 2, 1, 5] 2 rfl (by decide)).mono ?_
  rintro e w6 ⟨B6, d6, rfl, hd6, hr6, o6⟩
  clear o5
  go_wp2_with fail
  refine (plans_yes _ B6 2 d6 _ (hr6.cells fun p u hp => ((OnlyIn.refl [] w6).alloc _).cell hp (by simp)) rfl hd6 0 50 _ [1, 3] (Rd.lit (size := 1) w6 (intCells [1, 3]) 3 2 rfl) 7 0 ((plan_lit (v := [⟨1, 5⟩, ⟨3, 2⟩]) (by decide) vi2).trans (by decide))).mono ?_
  rintro e w7 ⟨rfl, t7⟩
  have o7 := (o6.alloc (.cells (intCells [1, 3]).toArray 3)).trans t7
  clear t7 hr6 o6
  go_wp2_with fail
  refine (plans_yes _ none 0 0 [] (Rd.nil _ 2) rfl (by decide) 3 9 _ [] (Rd.nil _ 1) 3 0 ((plan_lit (v := []) (by decide) vi0).trans (by decide))).mono ?_
  rintro e w8 ⟨rfl, t8⟩
  have o8 := o7.trans t8
  clear t8 o7
  go_wp2_with fail
  refine (plans_yes _ none 0 0 [] (Rd.nil _ 2) rfl (by decide) (-1) 9 _ [] (Rd.nil _ 1) 0 2 (plan_bad (by decide))).mono ?_
  rintro e w9 ⟨rfl, t9⟩
  have o9 := o8.trans t9
  clear t9 o8
  go_wp2_with fail
  refine (awake28 _).mono ?_
  rintro e w10 ⟨rfl, t10⟩
  have o10 := o9.trans t10
  clear t10 o9
  go_wp2_with fail
  refine (known28_of _ w o10 [1, 65] 1 rfl (by decide)).mono ?_
  rintro e w11 ⟨B11, d11, rfl, hd11, hr11, o11⟩
  clear o10
  have hh11 := hHeld_any w11 B11 1 d11 _ hr11 rfl hd11
  rw [show heldF (pairsTo [1, 65] 1) = 0 by decide] at hh11
  go_wp2_with fail
  refine hh11.mono ?_
  rintro e w12 ⟨rfl, t12⟩
  have o12 := o11.trans t12
  clear t12 hr11 hh11 o11
  go_wp2_with fail
  refine (known28_of _ w o12 [1, 64] 1 rfl (by decide)).mono ?_
  rintro e w13 ⟨B13, d13, rfl, hd13, hr13, o13⟩
  clear o12
  have hh13 := hCheck_any w13 B13 1 d13 _ hr13 rfl hd13
  rw [show checkF (pairsTo [1, 64] 1) = 0 from checkF_lit (.inl (by decide))] at hh13
  go_wp2_with fail
  refine hh13.mono ?_
  rintro e w14 ⟨rfl, t14⟩
  have o14 := o13.trans t14
  clear t14 hr13 hh13 o13
  go_wp2_with fail
  refine (known28_of _ w o14 [1, 65] 1 rfl (by decide)).mono ?_
  rintro e w15 ⟨B15, d15, rfl, hd15, hr15, o15⟩
  clear o14
  have hh15 := hCheck_any w15 B15 1 d15 _ hr15 rfl hd15
  rw [show checkF (pairsTo [1, 65] 1) = 2 from checkF_lit (.inr (by decide))] at hh15
  go_wp2_with fail
  refine hh15.mono ?_
  rintro e w16 ⟨rfl, t16⟩
  have o16 := o15.trans t16
  clear t16 hr15 hh15 o15
  go_wp2_with fail
  go_ret
  exact ⟨rfl, o16⟩
set_option maxRecDepth 100000 in
theorem PressKnown_walk {w : World} : Calls Try.prog 4 #[] w fun e w' => e = .returned (.bool true) ∧ OnlyIn [] w w' := known28 w
end Go.Proofs.Ytmbnmhcfafgnaaa
