/-
  Law 05: KindParts: the walk, the comparison behind one name.
-/
import Derived.Test.YtheihohojmcbiaaKindPartsT
import Derived.Deep.CutRange
namespace Go.Proofs.Ytheihohojmcbiaa
open Go.RowKit Go.Mine

set_option maxHeartbeats 4000000 in
set_option maxRecDepth 100000 in
/-- The walk, the answers behind names. -/
theorem parts_tail {w : World} (a b : Int) (E : Bool) (er fr : Int) (s t : List UInt8) (p0 p1 p2 p3 p4 q0 q1 q2 q3 q4 : Bool)
    (ho1 : ∀ w, Calls Try.prog 20 #[.int .i64 a] w fun e w' => e = .returned (.tuple #[.agg #[.bool p0, .bool p1, .bool p2, .bool p3, .bool p4], .int .i64 er]) ∧ OnlyIn [] w w')
    (ho2 : ∀ w, Calls Try.prog 20 #[.int .i64 b] w fun e w' => e = .returned (.tuple #[.agg #[.bool q0, .bool q1, .bool q2, .bool q3, .bool q4], .int .i64 fr]) ∧ OnlyIn [] w w')
    (hp1 : ∀ w, Calls Try.prog 18 #[.int .i64 a] w fun e w' => e = .returned (.tuple #[.string (str s), .int .i64 er]) ∧ OnlyIn [] w w')
    (hp2 : ∀ w, Calls Try.prog 18 #[.int .i64 b] w fun e w' => e = .returned (.tuple #[.string (str t), .int .i64 fr]) ∧ OnlyIn [] w w') (d1 : decide ((1 : Int) ≤ a) = true) (d2 : decide (a ≤ (10 : Int)) = true) (he : er = 0) (hf : fr = 0)
    (hab : (a == b) = E) (hst : ((str s).toList == (str t).toList) = E) (hpq : ((p0 == q0) && (p1 == q1) && (p2 == q2) && (p3 == q3) && (p4 == q4)) = E)
    (hb : (!p3 || p2) = true ∧ (!p1 || p0 || p4) = true ∧ (!p0 || (!p4 && !p2)) = true) :
    Calls Try.prog 6 #[.int .i64 a, .int .i64 b] w fun e w' => e = .returned (.bool true) ∧ OnlyIn [] w w' := by
  have haw := fun w => awake05 w
  subst he
  subst hf
  have hEE : (E != E) = false := by simp
  have HB := Lib.hid hb
  have HPQ := Lib.hid hpq
  clear hb hpq
  go_enter Try.func6, Try.ntmps6
  go_wp2_with (go_at_call 13; refine (haw _).mono ?_; rintro e w1 ⟨rfl, h1⟩)
  refine (ho1 _).mono ?_
  rintro e w2 ⟨rfl, h2⟩
  go_wp2_with fail
  refine (ho2 _).mono ?_
  rintro e w3 ⟨rfl, h3⟩
  have hO := (((Keep.start [] w2).alloc (.cells #[.bool p0, .bool p1, .bool p2, .bool p3, .bool p4] 33)).only0 h3).alloc (.cells #[.bool q0, .bool q1, .bool q2, .bool q3, .bool q4] 33)
  go_wp2_with fail
  refine (hp1 _).mono ?_
  rintro e w4 ⟨rfl, h4⟩
  have hO4 := hO.only0 h4
  go_wp2_with fail
  refine (hp2 _).mono ?_
  rintro e w5 ⟨rfl, h5⟩
  have hO5 := hO4.only0 h5
  have c0 := hO5.cell 1 0 rfl rfl
  have c1 := hO5.cell 1 1 rfl rfl
  have c2 := hO5.cell 1 2 rfl rfl
  have c3 := hO5.cell 1 3 rfl rfl
  have c4 := hO5.cell 1 4 rfl rfl
  have x0 := hO5.cell 0 0 rfl rfl
  have x1 := hO5.cell 0 1 rfl rfl
  have x2 := hO5.cell 0 2 rfl rfl
  have x3 := hO5.cell 0 3 rfl rfl
  have x4 := hO5.cell 0 4 rfl rfl
  have HO := Lib.hid ((h1.trans h2).trans hO5.only)
  clear h1 h2 h3 h4 h5 hO hO4 hO5 hp1 hp2 ho1 ho2 haw
  go_upto_region 10 with fail
  go_cut [76] from 14 to 76 (fun c wx => c = .bool false ∧ w5 = wx)
  case first =>
    go_wp2_with fail
    all_goals go_meet
    all_goals first | exact ⟨rfl, rfl⟩ | (exfalso; have := HPQ.out; simp_all; done)
  case rest =>
    obtain ⟨rfl, rfl⟩ := hcut
    clear hst hab hEE HPQ x0 x1 x2 x3 x4
    go_wp2_with fail
    all_goals first | (go_ret; exact ⟨rfl, HO.out⟩) | (go_ret; refine ⟨?_, HO.out⟩; have := HB.out; simp_all; done) | (exfalso; have := HB.out; simp_all; done)
end Go.Proofs.Ytheihohojmcbiaa
