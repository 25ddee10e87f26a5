/-
  Law 01: BitsNone.
-/
import Derived.Test.YtejomjkkjcnfnaaActs01
import Derived.Test.YtejomjkkjcnfnaaOwn
namespace Go.Proofs.Ytejomjkkjcnfnaa
open Go.RowKit Go.Mine

set_option maxRecDepth 100000 in
set_option maxHeartbeats 2000000 in
theorem None_walk {w : World} (a : Act01) (ha : a.ok) : Calls Try.prog 3 #[.agg #[.bool a.codes, .int .i64 a.n, .int .i64 a.b, .string (str a.s)]] w fun e w' => e = .returned (.bool true) ∧ OnlyIn [] w w' := by
  have hal := ha.2.2
  have hag := World.alloc_heap_new
  clear hag
  have hrd : Rd ((w.alloc (.cells #[.bool a.codes, .int .i64 a.n, .int .i64 a.b, .string (str a.s)] 23)).alloc (.cells #[.bool a.codes, .int .i64 a.n, .int .i64 a.b, .string (str a.s)] 23)) 4 (.slice (some ⟨w.heap.size + 1, 0, none⟩) [a].length 1) [a].length ([a].flatMap Act01.cells) := by
    have := Rd.lit (w.alloc (.cells #[.bool a.codes, .int .i64 a.n, .int .i64 a.b, .string (str a.s)] 23)) a.cells 23 1 (size := 4) rfl
    rw [World.size_alloc] at this
    exact this
  by_cases hs : a.s.length ≤ 100
  · have hlong := Long_no _ _ [a] hrd ⟨by simp, fun x hx => by simp at hx; subst hx; exact hs⟩
    clear hrd
    go_enter Try.func3, Try.ntmps3
    go_wp2_with fail
    refine hlong.mono ?_
    rintro e w1 ⟨rfl, hw1⟩
    obtain ⟨hO, hsz⟩ := (Keep.start [] w).more2 hw1
    clear hw1 hlong
    go_wp2_with fail
    generalize hw3 : World.alloc (World.alloc w1 _) _ = w3
    obtain ⟨hO3, hsz3⟩ := hO.more2 hw3
    clear hw3 hO
    simp only [hsz] at hO3 ⊢
    have q0 := hO3.cell 3 0 rfl rfl
    have q1 := hO3.cell 3 1 rfl rfl
    have q2 := hO3.cell 3 2 rfl rfl
    have q3 := hO3.cell 3 3 rfl rfl
    have p2 := hO3.cell 1 2 rfl rfl
    have s0 := hO3.cell 0 0 rfl rfl
    have s1 := hO3.cell 0 1 rfl rfl
    go_wp2_with fail
    go_loop [4] (fun i => ∃ k : Nat, k ≤ 2 ∧ i = .int .i64 (k : Int)) (fun i => 2 - (intOf i).toNat)
    case atStart => exact ⟨0, by omega, rfl⟩
    case round =>
      obtain ⟨k, hk, rfl⟩ := hrel
      obtain rfl | rfl | rfl : k = 0 ∨ k = 1 ∨ k = 2 := by omega
      · go_wp2_with (first | (go_at_call 17; refine (Put_nil _ _ _).mono ?_; rintro e w' ⟨rfl, rfl⟩) | (go_at_call 18; refine (Code_nil _ _).mono ?_; rintro e w' ⟨rfl, rfl⟩) | (go_at_call 19; refine (Len_nil _).mono ?_; rintro e w' ⟨rfl, rfl⟩) | (go_at_call 20; refine (Bytes_nil _).mono ?_; rintro e w' ⟨rfl, rfl⟩))
        go_round
        case rel => exact ⟨1, by omega, rfl⟩
        case measure => simp [intOf]
      · go_wp2_with (first | (go_at_call 17; refine (Put_no _ _ _ _ p2).mono ?_; rintro e w' ⟨rfl, rfl⟩) | (go_at_call 18; refine (Code_no _ _ _ p2).mono ?_; rintro e w' ⟨rfl, rfl⟩) | (go_at_call 19; refine (Len_no _ _ p2).mono ?_; rintro e w' ⟨rfl, rfl⟩) | (go_at_call 20; refine (Bytes_no _ _ p2).mono ?_; rintro e w' ⟨rfl, rfl⟩))
        go_round
        case rel => exact ⟨2, by omega, rfl⟩
        case measure => simp [intOf]
      · go_wp2_with (go_at_call 16; refine (awake_any _).mono ?_; rintro e w' ⟨rfl, ht⟩)
        go_ret
        exact ⟨rfl, hO3.only.trans ht⟩
  · have hlong := Long_yes _ _ [a] hrd (by show 1 ≤ maxLen; unfold maxLen; decide) (fun x hx => by simp at hx; subst hx; exact hal) (fun h => hs (h.2 a (by simp)))
    clear hrd
    go_enter Try.func3, Try.ntmps3
    go_wp2_with fail
    refine hlong.mono ?_
    rintro e w1 ⟨rfl, hw1⟩
    obtain ⟨hO, hsz⟩ := (Keep.start [] w).more2 hw1
    clear hw1 hlong
    go_wp2_with (go_at_call 16; refine (awake_any _).mono ?_; rintro e w' ⟨rfl, ht⟩)
    go_ret
    exact ⟨rfl, hO.only.trans ht⟩
end Go.Proofs.Ytejomjkkjcnfnaa
