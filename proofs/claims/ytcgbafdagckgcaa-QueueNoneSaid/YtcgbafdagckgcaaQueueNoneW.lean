/-
  Law 02: QueueNone: the walk.
-/
import Derived.Test.YtcgbafdagckgcaaLaw02
namespace Go.Proofs.Ytcgbafdagckgcaa
open Go.RowKit Go.Mine

/-- No queue: nil, or one that nobody made. -/
def NoQ (w : World) (p : Option Addr) : Prop := p = none ∨ ∃ b, p = some ⟨b, 0, none⟩ ∧ w.cell? ⟨b, 0, none⟩ = some (.int .i64 0)
set_option maxRecDepth 100000 in
theorem none_yes (w : World) (p : Option Addr) (h : NoQ w p) : Calls Try.prog 61 #[.pointer p] w fun e w' => e = .returned (.bool true) ∧ w = w' := by
  rcases h with rfl | ⟨b, rfl, hb⟩
  · go_enter Try.func61, Try.ntmps61
    go_wp2
    go_ret
    exact ⟨rfl, rfl⟩
  · go_enter Try.func61, Try.ntmps61
    go_wp2
    go_ret
    exact ⟨rfl, rfl⟩
section
variable (w : World) (p : Option Addr) (h : NoQ w p)
include h
set_option maxRecDepth 100000 in
theorem nFeed (v : Value) : Calls Try.prog 35 #[.pointer p, v] w fun e w' => e = .returned (.tuple #[.int .i64 0, .int .i64 1]) ∧ w = w' := by
  have hn := none_yes w p h
  go_enter Try.func35, Try.ntmps35
  go_wp2_with (go_at_call 61; refine hn.mono ?_; rintro e w' ⟨rfl, rfl⟩)
  go_ret2
  exact ⟨rfl, rfl⟩
set_option maxRecDepth 100000 in
theorem nBits : Calls Try.prog 46 #[.pointer p] w fun e w' => e = .returned (.tuple #[.slice none 0 0, .int .i64 0]) ∧ w = w' := by
  have hn := none_yes w p h
  go_enter Try.func46, Try.ntmps46
  go_wp2_with (go_at_call 61; refine hn.mono ?_; rintro e w' ⟨rfl, rfl⟩)
  go_ret2
  exact ⟨rfl, rfl⟩
set_option maxRecDepth 100000 in
theorem nEnd : Calls Try.prog 44 #[.pointer p] w fun e w' => e = .returned (.int .i64 1) ∧ w = w' := by
  have hn := none_yes w p h
  go_enter Try.func44, Try.ntmps44
  go_wp2_with (go_at_call 61; refine hn.mono ?_; rintro e w' ⟨rfl, rfl⟩)
  go_ret
  exact ⟨rfl, rfl⟩
set_option maxRecDepth 100000 in
theorem nSkip (n : Int) : Calls Try.prog 37 #[.pointer p, .int .i64 n] w fun e w' => e = .returned (.int .i64 1) ∧ w = w' := by
  have hn := none_yes w p h
  go_enter Try.func37, Try.ntmps37
  go_wp2_with (go_at_call 61; refine hn.mono ?_; rintro e w' ⟨rfl, rfl⟩)
  go_ret
  exact ⟨rfl, rfl⟩
set_option maxRecDepth 100000 in
theorem nLeft : Calls Try.prog 36 #[.pointer p] w fun e w' => e = .returned (.int .i64 0) ∧ w = w' := by
  have hn := none_yes w p h
  go_enter Try.func36, Try.ntmps36
  go_wp2_with (go_at_call 61; refine hn.mono ?_; rintro e w' ⟨rfl, rfl⟩)
  go_ret
  exact ⟨rfl, rfl⟩
set_option maxRecDepth 100000 in
theorem nFree : Calls Try.prog 38 #[.pointer p] w fun e w' => e = .returned (.int .i64 0) ∧ w = w' := by
  have hn := none_yes w p h
  go_enter Try.func38, Try.ntmps38
  go_wp2_with (go_at_call 61; refine hn.mono ?_; rintro e w' ⟨rfl, rfl⟩)
  go_ret
  exact ⟨rfl, rfl⟩
set_option maxRecDepth 100000 in
theorem nCame : Calls Try.prog 43 #[.pointer p] w fun e w' => e = .returned (.int .i64 0) ∧ w = w' := by
  have hn := none_yes w p h
  go_enter Try.func43, Try.ntmps43
  go_wp2_with (go_at_call 61; refine hn.mono ?_; rintro e w' ⟨rfl, rfl⟩)
  go_ret
  exact ⟨rfl, rfl⟩
set_option maxRecDepth 100000 in
theorem nGone : Calls Try.prog 42 #[.pointer p] w fun e w' => e = .returned (.int .i64 0) ∧ w = w' := by
  have hn := none_yes w p h
  go_enter Try.func42, Try.ntmps42
  go_wp2_with (go_at_call 61; refine hn.mono ?_; rintro e w' ⟨rfl, rfl⟩)
  go_ret
  exact ⟨rfl, rfl⟩
set_option maxRecDepth 100000 in
theorem nEnded : Calls Try.prog 56 #[.pointer p] w fun e w' => e = .returned (.bool false) ∧ w = w' := by
  have hn := none_yes w p h
  go_enter Try.func56, Try.ntmps56
  go_wp2_with (go_at_call 61; refine hn.mono ?_; rintro e w' ⟨rfl, rfl⟩)
  go_ret
  exact ⟨rfl, rfl⟩
end

set_option maxRecDepth 100000 in
set_option maxHeartbeats 2000000 in
theorem QueueNone_walk {w : World} (x : Value × List UInt8) (hx : Rd w 1 x.1 x.2.length (byteCells x.2) ∧ x.2.length ≤ maxLen) (n : Int) (_hn : -9223372036854775808 ≤ n ∧ n ≤ 9223372036854775807) :
    Calls Try.prog 12 #[x.1, .int .i64 n] w fun e w' => e = .returned (.bool true) ∧ OnlyIn [] w w' := by
  obtain ⟨v, s⟩ := x
  obtain ⟨hr, hml⟩ := hx
  simp only at hr hml ⊢
  obtain ⟨-, A, c, rfl, hc, -⟩ := hr
  clear _hn
  by_cases hl : 100 < s.length
  · have hd : decide ((100 : Int) < (s.length : Int)) = true := by simp; omega
    go_enter Try.func12, Try.ntmps12
    go_wp2_with (go_at_call 33; refine (awake_any02 _).mono ?_; rintro e w1 ⟨rfl, ht⟩)
    go_ret
    exact ⟨rfl, ht⟩
  have hd : decide ((100 : Int) < (s.length : Int)) = false := by simp; omega
  go_enter Try.func12, Try.ntmps12
  go_wp2_with fail
  generalize hw2 : World.alloc (World.alloc _ _) _ = w2
  have hO := ((Keep.start [] w).more2 hw2).1
  simp only [List.cons_append, List.nil_append] at hO
  have z0 := hO.cell 1 0 rfl rfl
  have l0 := hO.cell 0 0 rfl rfl
  have l1 := hO.cell 0 1 rfl rfl
  clear hw2
  go_loopw [6] (fun i wr => ∃ k : Nat, k ≤ 2 ∧ i = .int .i64 (k : Int) ∧ w2 = wr) (fun i _ => 2 - (intOf i).toNat)
  case atStart => exact ⟨0, by omega, rfl, rfl⟩
  case round =>
    obtain ⟨k, hk, rfl, rfl⟩ := hrel
    rcases (by omega : k = 0 ∨ k = 1 ∨ k = 2) with rfl | rfl | rfl
    · have hq : NoQ w2 none := .inl rfl
      go_wp2_with (first | (go_at_call 35; refine (nFeed _ _ hq _).mono ?_; rintro e w' ⟨rfl, rfl⟩) | (go_at_call 46; refine (nBits _ _ hq).mono ?_; rintro e w' ⟨rfl, rfl⟩) | (go_at_call 44; refine (nEnd _ _ hq).mono ?_; rintro e w' ⟨rfl, rfl⟩) | (go_at_call 37; refine (nSkip _ _ hq _).mono ?_; rintro e w' ⟨rfl, rfl⟩) | (go_at_call 36; refine (nLeft _ _ hq).mono ?_; rintro e w' ⟨rfl, rfl⟩) | (go_at_call 38; refine (nFree _ _ hq).mono ?_; rintro e w' ⟨rfl, rfl⟩) | (go_at_call 43; refine (nCame _ _ hq).mono ?_; rintro e w' ⟨rfl, rfl⟩) | (go_at_call 42; refine (nGone _ _ hq).mono ?_; rintro e w' ⟨rfl, rfl⟩) | (go_at_call 56; refine (nEnded _ _ hq).mono ?_; rintro e w' ⟨rfl, rfl⟩))
      go_roundw
      case rel => exact ⟨1, by omega, by first | rfl | trivial, by first | rfl | trivial⟩
      case measure => simp [intOf]
    · have hq : NoQ w2 (some ⟨w.heap.size, 0, none⟩) := .inr ⟨_, rfl, z0⟩
      go_wp2_with (first | (go_at_call 35; refine (nFeed _ _ hq _).mono ?_; rintro e w' ⟨rfl, rfl⟩) | (go_at_call 46; refine (nBits _ _ hq).mono ?_; rintro e w' ⟨rfl, rfl⟩) | (go_at_call 44; refine (nEnd _ _ hq).mono ?_; rintro e w' ⟨rfl, rfl⟩) | (go_at_call 37; refine (nSkip _ _ hq _).mono ?_; rintro e w' ⟨rfl, rfl⟩) | (go_at_call 36; refine (nLeft _ _ hq).mono ?_; rintro e w' ⟨rfl, rfl⟩) | (go_at_call 38; refine (nFree _ _ hq).mono ?_; rintro e w' ⟨rfl, rfl⟩) | (go_at_call 43; refine (nCame _ _ hq).mono ?_; rintro e w' ⟨rfl, rfl⟩) | (go_at_call 42; refine (nGone _ _ hq).mono ?_; rintro e w' ⟨rfl, rfl⟩) | (go_at_call 56; refine (nEnded _ _ hq).mono ?_; rintro e w' ⟨rfl, rfl⟩))
      go_roundw
      case rel => exact ⟨2, by omega, by first | rfl | trivial, by first | rfl | trivial⟩
      case measure => simp [intOf]
    · go_wp2_with (go_at_call 33; refine (awake_any02 _).mono ?_; rintro e w3 ⟨rfl, t3⟩)
      go_ret
      exact ⟨rfl, hO.only.trans t3⟩
end Go.Proofs.Ytcgbafdagckgcaa
