/-
  Law 06: VectorKnown.
-/
import Derived.Test.YtheihohojmcbiaaLaw06
namespace Go.Proofs.Ytheihohojmcbiaa
open Go.RowKit Go.Mine

set_option maxRecDepth 100000 in
set_option maxHeartbeats 8000000 in
theorem known06 (w : World) : Calls Try.prog 10 #[] w fun e w' => e = .returned (.bool true) ∧ OnlyIn [] w w' := by
  go_enter Try.func10, Try.ntmps10
  go_wp2_with fail
  refine (show Calls Try.prog 34 #[.int .i64 16] w fun e w' => e = .returned (.tuple #[.string ⟨#[]⟩, .int .i64 3]) ∧ w = w' from vPut_any w 16).mono ?_
  rintro e w0 ⟨rfl, rfl⟩
  have o0 := OnlyIn.refl [] w
  go_wp2_with fail
  refine (gets06_yes _ _ [128] (Rd.lit w (byteCells [128]) 5 1 rfl) (by decide) (0) 1 0 (by decide +kernel)).mono ?_
  rintro e w1 ⟨rfl, ht1⟩
  have o1 := (o0.alloc (.cells (byteCells [128]).toArray 5)).trans ht1
  clear ht1 o0
  go_wp2_with fail
  refine (gets06_yes _ _ [64] (Rd.lit w1 (byteCells [64]) 5 1 rfl) (by decide) (1) 3 0 (by decide +kernel)).mono ?_
  rintro e w2 ⟨rfl, ht2⟩
  have o2 := (o1.alloc (.cells (byteCells [64]).toArray 5)).trans ht2
  clear ht2 o1
  go_wp2_with fail
  refine (gets06_yes _ _ [0, 255] (Rd.lit w2 (byteCells [0, 255]) 5 2 rfl) (by decide) (0) 0 7 (by decide +kernel)).mono ?_
  rintro e w3 ⟨rfl, ht3⟩
  have o3 := (o2.alloc (.cells (byteCells [0, 255]).toArray 5)).trans ht3
  clear ht3 o2
  go_wp2_with fail
  refine (gets06_yes _ _ [3] (Rd.lit w3 (byteCells [3]) 5 1 rfl) (by decide) (0) 0 5 (by decide +kernel)).mono ?_
  rintro e w4 ⟨rfl, ht4⟩
  have o4 := (o3.alloc (.cells (byteCells [3]).toArray 5)).trans ht4
  clear ht4 o3
  go_wp2_with fail
  refine (puts06_yes _ 0 [49] rfl).mono ?_
  rintro e wz ⟨rfl, rfl⟩
  go_wp2_with fail
  refine (puts06_yes _ (-16) [48, 48, 48, 48, 48, 48, 49, 49, 48, 48, 49] rfl).mono ?_
  rintro e wz ⟨rfl, rfl⟩
  go_wp2_with fail
  refine (turns06_yes _ (0) (5) (5) 0 rfl).mono ?_
  rintro e wz ⟨rfl, rfl⟩
  go_wp2_with fail
  refine (turns06_yes _ (-10) (-10) (12) 0 rfl).mono ?_
  rintro e wz ⟨rfl, rfl⟩
  go_wp2_with fail
  refine (turns06_yes _ (0) (-16) (0) 12 rfl).mono ?_
  rintro e wz ⟨rfl, rfl⟩
  go_wp2_with fail
  refine (turns06_yes _ (1) (-16) (-15) 0 rfl).mono ?_
  rintro e wz ⟨rfl, rfl⟩
  go_wp2_with fail
  refine (turns06_yes _ (-1) (-16) (15) 0 rfl).mono ?_
  rintro e wz ⟨rfl, rfl⟩
  go_wp2_with fail
  refine (turns06_yes _ (16) (0) (0) 3 rfl).mono ?_
  rintro e wz ⟨rfl, rfl⟩
  go_wp2_with fail
  refine (show Calls Try.prog 40 #[.int .i64 5, .int .i64 1, .bool true, .int .i64 2, .int .i64 (-3)] _ fun e w' => e = .returned (.tuple #[.int .i64 (2), .int .i64 (-3)]) ∧ _ = w' from vPred_any _ 5 1 true 2 (-3)).mono ?_
  rintro e wz ⟨rfl, rfl⟩
  go_wp2_with fail
  refine (show Calls Try.prog 40 #[.int .i64 12, .int .i64 1, .bool true, .int .i64 2, .int .i64 (-3)] _ fun e w' => e = .returned (.tuple #[.int .i64 (0), .int .i64 (0)]) ∧ _ = w' from vPred_any _ 12 1 true 2 (-3)).mono ?_
  rintro e wz ⟨rfl, rfl⟩
  go_wp2_with fail
  refine (show Calls Try.prog 40 #[.int .i64 5, .int .i64 2, .bool true, .int .i64 2, .int .i64 (-3)] _ fun e w' => e = .returned (.tuple #[.int .i64 (0), .int .i64 (0)]) ∧ _ = w' from vPred_any _ 5 2 true 2 (-3)).mono ?_
  rintro e wz ⟨rfl, rfl⟩
  go_wp2_with fail
  refine (show Calls Try.prog 40 #[.int .i64 5, .int .i64 1, .bool false, .int .i64 2, .int .i64 (-3)] _ fun e w' => e = .returned (.tuple #[.int .i64 (0), .int .i64 (0)]) ∧ _ = w' from vPred_any _ 5 1 false 2 (-3)).mono ?_
  rintro e wz ⟨rfl, rfl⟩
  go_wp2_with fail
  refine (awake06 _).mono ?_
  rintro e w9 ⟨rfl, ht9⟩
  have o9 := o4.trans ht9
  clear ht9 o4
  go_wp2_with fail
  refine (diffs06_yes _ (-15) (15) (-2) rfl).mono ?_
  rintro e wz ⟨rfl, rfl⟩
  go_wp2_with fail
  refine (diffs06_yes _ (15) (-15) (2) rfl).mono ?_
  rintro e wz ⟨rfl, rfl⟩
  go_wp2_with fail
  refine (diffs06_yes _ (3) (3) (0) rfl).mono ?_
  rintro e wz ⟨rfl, rfl⟩
  go_wp2_with fail
  go_ret
  exact ⟨rfl, o9⟩
end Go.Proofs.Ytheihohojmcbiaa
