/-
  Law 05: KindParts: the walk.
-/
import Derived.Test.YtheihohojmcbiaaKindPartsC
namespace Go.Proofs.Ytheihohojmcbiaa
open Go.RowKit Go.Mine

theorem ten {a : Int} (h : 1 ≤ a ∧ a ≤ 10) : a = 1 ∨ a = 2 ∨ a = 3 ∨ a = 4 ∨ a = 5 ∨ a = 6 ∨ a = 7 ∨ a = 8 ∨ a = 9 ∨ a = 10 := by omega
set_option maxRecDepth 100000 in
set_option maxHeartbeats 2000000 in
theorem parts_facts {a b : Int} (ha : 1 ≤ a ∧ a ≤ 10) (hb : 1 ≤ b ∧ b ≤ 10) : decide (kText a = kText b) = (a == b) ∧ ((kOf a 0 == kOf b 0) && (kOf a 1 == kOf b 1) && (kOf a 2 == kOf b 2) && (kOf a 3 == kOf b 3) && (kOf a 4 == kOf b 4)) = (a == b) ∧ (!kOf a 3 || kOf a 2) = true ∧ (!kOf a 1 || kOf a 0 || kOf a 4) = true ∧ (!kOf a 0 || (!kOf a 4 && !kOf a 2)) = true := by
  rcases ten ha with rfl | rfl | rfl | rfl | rfl | rfl | rfl | rfl | rfl | rfl <;> rcases ten hb with rfl | rfl | rfl | rfl | rfl | rfl | rfl | rfl | rfl | rfl <;> exact ⟨by decide, by decide, by decide, by decide, by decide⟩

set_option maxRecDepth 100000 in
set_option maxHeartbeats 2000000 in
theorem KindParts_walk {w : World} (a : Int) (ha : -9223372036854775808 ≤ a ∧ a ≤ 9223372036854775807) (b : Int) (hb : -9223372036854775808 ≤ b ∧ b ≤ 9223372036854775807) :
    Calls Try.prog 6 #[.int .i64 a, .int .i64 b] w fun e w' => e = .returned (.bool true) ∧ OnlyIn [] w w' := by
  have haw := fun w => awake05 w
  have ho1 := fun w => kOf_any w a
  have ho2 := fun w => kOf_any w b
  have hp1 := fun w => kPut_any w a ha
  have hp2 := fun w => kPut_any w b hb
  rw [kText_put] at hp1 hp2
  simp only at hp1 hp2
  unfold partsL at ho1 ho2
  by_cases hra : 1 ≤ a ∧ a ≤ 10
  · have ea : kErr a = 0 := by unfold kErr; rw [if_pos hra]
    by_cases hrb : 1 ≤ b ∧ b ≤ 10
    · have eb : kErr b = 0 := by unfold kErr; rw [if_pos hrb]
      have f := parts_facts hra hrb
      exact parts_tail a b (a == b) _ _ _ _ _ _ _ _ _ _ _ _ _ _ ho1 ho2 hp1 hp2 (decide_eq_true hra.1) (decide_eq_true hra.2) ea eb rfl (by rw [str_beq]; exact f.1) f.2.1 f.2.2
    · have eb : kErr b = 18 := by unfold kErr; rw [if_neg hrb]
      have d1 : decide ((1 : Int) ≤ a) = true := decide_eq_true hra.1
      have d2 : decide (a ≤ (10 : Int)) = true := decide_eq_true hra.2
      rw [ea] at ho1 hp1
      rw [eb] at ho2 hp2
      clear ea eb hra hrb ha hb
      go_enter Try.func6, Try.ntmps6
      go_wp2_with (first | (go_at_call 13; refine (haw _).mono ?_; rintro e w1 ⟨rfl, h1⟩))
      refine (ho1 _).mono ?_
      rintro e w2 ⟨rfl, h2⟩
      go_wp2_with fail
      refine (ho2 _).mono ?_
      rintro e w3 ⟨rfl, h3⟩
      go_wp2_with fail
      refine (hp1 _).mono ?_
      rintro e w4 ⟨rfl, h4⟩
      go_wp2_with fail
      refine (hp2 _).mono ?_
      rintro e w5 ⟨rfl, h5⟩
      have HO := Lib.hid ((((h1.trans h2).alloc (.cells #[.bool (kOf a 0), .bool (kOf a 1), .bool (kOf a 2), .bool (kOf a 3), .bool (kOf a 4)] 33)).trans h3).alloc (.cells #[.bool (kOf b 0), .bool (kOf b 1), .bool (kOf b 2), .bool (kOf b 3), .bool (kOf b 4)] 33) |>.trans h4 |>.trans h5)
      clear ho1 ho2 hp1 hp2 haw h1 h2 h3 h4 h5
      go_wp2_with fail
      go_ret
      exact ⟨rfl, HO.out⟩
  · have ea : kErr a = 18 := by unfold kErr; rw [if_neg hra]
    have hrange : (decide ((1 : Int) ≤ a) = false) ∨ (decide ((1 : Int) ≤ a) = true ∧ decide (a ≤ (10 : Int)) = false) := by
      by_cases h : 1 ≤ a
      · exact .inr ⟨decide_eq_true h, decide_eq_false (by omega)⟩
      · exact .inl (decide_eq_false h)
    have be : (kErr b == kErr b) = true := by simp
    obtain ⟨er, he⟩ : ∃ er, kErr b = er := ⟨_, rfl⟩
    have bn : (er != er) = false := by simp
    rw [ea] at ho1 hp1
    rw [he] at ho2 hp2
    clear ea he be hra ha hb
    rcases hrange with d1 | ⟨d1, d2⟩
    · go_enter Try.func6, Try.ntmps6
      go_wp2_with (first | (go_at_call 13; refine (haw _).mono ?_; rintro e w1 ⟨rfl, h1⟩))
      refine (ho1 _).mono ?_
      rintro e w2 ⟨rfl, h2⟩
      go_wp2_with fail
      refine (ho2 _).mono ?_
      rintro e w3 ⟨rfl, h3⟩
      go_wp2_with fail
      refine (hp1 _).mono ?_
      rintro e w4 ⟨rfl, h4⟩
      go_wp2_with fail
      refine (hp2 _).mono ?_
      rintro e w5 ⟨rfl, h5⟩
      have HO := Lib.hid ((((h1.trans h2).alloc (.cells #[.bool (kOf a 0), .bool (kOf a 1), .bool (kOf a 2), .bool (kOf a 3), .bool (kOf a 4)] 33)).trans h3).alloc (.cells #[.bool (kOf b 0), .bool (kOf b 1), .bool (kOf b 2), .bool (kOf b 3), .bool (kOf b 4)] 33) |>.trans h4 |>.trans h5)
      clear ho1 ho2 hp1 hp2 haw h1 h2 h3 h4 h5
      go_wp2_with fail
      go_ret
      exact ⟨rfl, HO.out⟩
    · go_enter Try.func6, Try.ntmps6
      go_wp2_with (first | (go_at_call 13; refine (haw _).mono ?_; rintro e w1 ⟨rfl, h1⟩))
      refine (ho1 _).mono ?_
      rintro e w2 ⟨rfl, h2⟩
      go_wp2_with fail
      refine (ho2 _).mono ?_
      rintro e w3 ⟨rfl, h3⟩
      go_wp2_with fail
      refine (hp1 _).mono ?_
      rintro e w4 ⟨rfl, h4⟩
      go_wp2_with fail
      refine (hp2 _).mono ?_
      rintro e w5 ⟨rfl, h5⟩
      have HO := Lib.hid ((((h1.trans h2).alloc (.cells #[.bool (kOf a 0), .bool (kOf a 1), .bool (kOf a 2), .bool (kOf a 3), .bool (kOf a 4)] 33)).trans h3).alloc (.cells #[.bool (kOf b 0), .bool (kOf b 1), .bool (kOf b 2), .bool (kOf b 3), .bool (kOf b 4)] 33) |>.trans h4 |>.trans h5)
      clear ho1 ho2 hp1 hp2 haw h1 h2 h3 h4 h5
      go_wp2_with fail
      go_ret
      exact ⟨rfl, HO.out⟩
end Go.Proofs.Ytheihohojmcbiaa
