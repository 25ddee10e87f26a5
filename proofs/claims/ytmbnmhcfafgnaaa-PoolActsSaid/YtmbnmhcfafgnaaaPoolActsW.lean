/-
  Law 23: PoolActs: the walk.
-/
import Derived.Test.YtmbnmhcfafgnaaaActed3
import Derived.Test.YtmbnmhcfafgnaaaKnown23
namespace Go.Proofs.Ytmbnmhcfafgnaaa
open Go.RowKit Go.Mine

set_option maxRecDepth 100000 in
theorem acts_long (w : World) (a0 a1 : Int) (u : Option Addr) (n c : Nat) (h : 80 < n ∨ (12 < a0 ∧ a0 ≤ 64)) :
    Calls Try.prog 10 #[.int .i64 a0, .int .i64 a1, .slice u n c] w fun e w' => e = .returned (.bool true) ∧ OnlyIn [] w w' := by
  have haw := awake23 w w (OnlyIn.refl _ _)
  by_cases h1 : 80 < n
  · have d1 : decide (80 < (n : Int)) = true := decide_eq_true (by omega)
    have d1' : decide (80 < n) = true := decide_eq_true h1
    go_enter Try.func10, Try.ntmps10
    go_wp2_with fail
    refine haw.mono ?_
    rintro e w1 ⟨rfl, o1⟩
    replace o1 := Lib.hid o1
    clear haw
    go_wp2_with fail
    go_ret
    exact ⟨rfl, o1.out⟩
  · have d1 : decide (80 < (n : Int)) = false := decide_eq_false (by omega)
    have d1' : decide (80 < n) = false := decide_eq_false h1
    have d2 : decide (12 < a0) = true := decide_eq_true (by omega)
    have d3 : decide (a0 ≤ 64) = true := decide_eq_true (by omega)
    clear h h1
    go_enter Try.func10, Try.ntmps10
    go_wp2_with fail
    refine haw.mono ?_
    rintro e w1 ⟨rfl, o1⟩
    replace o1 := Lib.hid o1
    clear haw
    go_wp2_with fail
    go_ret
    exact ⟨rfl, o1.out⟩

set_option maxRecDepth 100000 in
set_option maxHeartbeats 4000000 in
theorem acts_bad (w : World) (a0 a1 : Int) (A : Option Addr) (n c : Nat) (acts : List Act23) (hn : acts.length = n) (hA : 0 < n → ∃ g off, A = some ⟨g, off, none⟩ ∧ ∀ j u, (acts.flatMap Act23.cells)[j]? = some u → w.cell? ⟨g, off + j, none⟩ = some u)
    (hac : n ≤ 80) (hb : ¬ (12 < a0 ∧ a0 ≤ 64)) (hbad : ¬ (1 ≤ a0 ∧ a0 ≤ 64 ∧ 1 ≤ a1 ∧ a1 ≤ a0)) :
    Calls Try.prog 10 #[.int .i64 a0, .int .i64 a1, .slice A n c] w fun e w' => e = .returned (.bool true) ∧ OnlyIn [] w w' := by
  have haw := awake23 w w (OnlyIn.refl _ _)
  have hp := pNew_bad w a0 a1 hbad
  have hr := rNew_bad w a0 a1 hbad
  have HA := Lib.hid hA
  have HN := Lib.hid hn
  have d1 : decide (80 < (n : Int)) = false := decide_eq_false (by omega)
  have d1' : decide (80 < n) = false := decide_eq_false (by omega)
  obtain ⟨B1, hB1⟩ : ∃ B1, decide (12 < a0) = B1 := ⟨_, rfl⟩
  obtain ⟨B2, hB2⟩ : ∃ B2, decide (a0 ≤ 64) = B2 := ⟨_, rfl⟩
  have hBB : (B1 = false) ∨ (B1 = true ∧ B2 = false) := by
    subst hB1 hB2
    simp only [decide_eq_false_iff_not, decide_eq_true_eq]
    omega
  clear hA hn hb hbad
  rcases hBB with rfl | ⟨rfl, rfl⟩ <;> (
    go_enter Try.func10, Try.ntmps10
    go_wp2_with fail
    go_loopw [7] (fun i wr => ∃ k : Nat, k ≤ n ∧ i = .int .i64 (k : Int) ∧ wr = w) (fun i _ => n - (RowKit.intOf i).toNat)
    case atStart => exact ⟨0, by omega, rfl, rfl⟩
    case round =>
      obtain ⟨k, hk, rfl, rfl⟩ := hrel
      by_cases hlt : k < n
      · obtain ⟨g, off, rfl, hg⟩ := HA.out (by omega)
        obtain ⟨⟨kd, fr, ow, z⟩, hak⟩ : ∃ a, acts[k]? = some a := ⟨_, List.getElem?_eq_getElem (by rw [HN.out]; exact hlt)⟩
        have y3 := hg (k * 4 + 3) (.int .i64 z) (by rw [flat_get Act23.len acts _ 3 (by omega), hak]; rfl)
        rw [← Nat.add_assoc] at y3
        clear hg hak
        by_cases e1 : 400 < z
        · have d5 : decide (400 < z) = true := decide_eq_true e1
          by_cases e2 : z ≤ 152064
          · have d6 : decide (z ≤ 152064) = true := decide_eq_true e2
            clear hp hr
            go_wp2_with fail
            refine haw.mono ?_
            rintro e w1 ⟨rfl, o1⟩
            replace o1 := Lib.hid o1
            clear haw
            go_wp2_with fail
            go_ret
            exact ⟨rfl, o1.out⟩
          · have d6 : decide (z ≤ 152064) = false := decide_eq_false e2
            go_wp2_with fail
            go_roundw
            case rel => exact ⟨k + 1, by omega, by first | rfl | go_num, by first | rfl | trivial⟩
            case measure => simp [RowKit.intOf]; omega
        · have d5 : decide (400 < z) = false := decide_eq_false e1
          go_wp2_with fail
          go_roundw
          case rel => exact ⟨k + 1, by omega, by first | rfl | go_num, by first | rfl | trivial⟩
          case measure => simp [RowKit.intOf]; omega
      · obtain rfl : n = k := by omega
        go_wp2_with fail
        refine hp.mono ?_
        rintro e w' ⟨rfl, rfl⟩
        go_wp2_with fail
        refine hr.mono ?_
        rintro e w' ⟨rfl, rfl⟩
        clear hp hr
        go_wp2_with fail
        go_loopw [12] (fun i wr' => wr' = wr) (fun i _ => 0)
        case atStart => rfl
        case round =>
          obtain rfl := hrel
          go_wp2_with fail
          refine haw.mono ?_
          rintro e w1 ⟨rfl, o1⟩
          replace o1 := Lib.hid o1
          clear haw
          go_wp2_with fail
          go_ret
          exact ⟨rfl, o1.out⟩)
end Go.Proofs.Ytmbnmhcfafgnaaa
