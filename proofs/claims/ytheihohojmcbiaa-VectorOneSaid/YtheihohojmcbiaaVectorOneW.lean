/-
  Law 06: VectorOne: the walk.
-/
import Derived.Test.YtheihohojmcbiaaKnown06
import Derived.Test.YtheihohojmcbiaaKit
namespace Go.Proofs.Ytheihohojmcbiaa
open Go.RowKit Go.Mine

set_option maxRecDepth 100000 in
set_option maxHeartbeats 4000000 in
theorem VectorOne_walk {w : World} (a : Int) (ha : -9223372036854775808 ≤ a ∧ a ≤ 9223372036854775807) (b : Int) (hb : -9223372036854775808 ≤ b ∧ b ≤ 9223372036854775807) :
    Calls Try.prog 12 #[.int .i64 a, .int .i64 b] w fun e w' => e = .returned (.bool true) ∧ OnlyIn [] w w' := by
  have hkn := known06 w
  have hpa := fun w9 => Pick_any a 31 w9 (by omega) (by omega) ha.1 ha.2
  have hpb := fun w9 => Pick_any b 31 w9 (by omega) (by omega) hb.1 hb.2
  obtain ⟨x, hx⟩ : ∃ x, a % 31 = x := ⟨_, rfl⟩
  obtain ⟨y, hy⟩ : ∃ y, b % 31 = y := ⟨_, rfl⟩
  have hx1 : 0 ≤ x ∧ x < 31 := by omega
  have hy1 : 0 ≤ y ∧ y < 31 := by omega
  rw [hx] at hpa
  rw [hy] at hpb
  have hp : partP (x - 15) := by unfold partP; omega
  have ht : partP (y - 15) := by unfold partP; omega
  have hit := fun d => turn_hit (d := d) hp ht
  have hdf := fun w => vDiff_any w (x - 15) (y - 15)
  have htn := fun w d => vTurn_any w (x - 15) d
  have hdd : diffF (x - 15) (y - 15) = ((y - 15 - (x - 15) + 80) % 32 - 16, 0) := by unfold diffF; rw [if_pos ⟨hp, ht⟩]
  obtain ⟨D, hD⟩ : ∃ D : Nat, (y - 15 - (x - 15) + 80) % 32 = (D : Int) := Int.eq_ofNat_of_zero_le (Int.emod_nonneg _ (by omega))
  have hD32 : D < 32 := by omega
  rw [hD] at hdd hit
  rw [hdd] at hdf
  simp only at hdf
  have HIT := Lib.hid hit
  have c1 : decide ((D : Int) - 16 < -16) = false := decide_eq_false (by omega)
  have c2 : decide ((15 : Int) < (D : Int) - 16) = false := decide_eq_false (by omega)
  clear hx hy hp ht hit hdd hD ha hb
  go_enter Try.func12, Try.ntmps12
  go_wp2_with (first | (go_at_call 10; refine hkn.mono ?_; rintro e w1 ⟨rfl, ht1⟩; clear hkn) | (go_at_call 26; refine (hpa _).mono ?_; rintro e w2 ⟨rfl, rfl⟩; clear hpa) | (go_at_call 26; refine (hpb _).mono ?_; rintro e w3 ⟨rfl, rfl⟩) | (go_at_call 38; refine (hdf _).mono ?_; rintro e w4 ⟨rfl, rfl⟩))
  go_loop [8, 9, 10] (fun d _ _ => ∃ k : Nat, k ≤ 32 ∧ d = .int .i64 ((k : Int) - 16)) (fun d _ _ => (16 - intOf d).toNat)
  case atStart => exact ⟨0, by omega, rfl⟩
  case round =>
    obtain ⟨k, hk, rfl⟩ := hrel
    by_cases hlt : k < 32
    · have hc := htn w1 ((k : Int) - 16)
      have hh := HIT.out ((k : Int) - 16) (by omega) (by omega)
      obtain ⟨⟨n, er⟩, hn⟩ : ∃ z, turnF (x - 15) ((k : Int) - 16) = z := ⟨_, rfl⟩
      rw [hn] at hc hh
      simp only at hc
      have dlt : decide ((k : Int) - 16 ≤ 15) = true := decide_eq_true (by omega)
      by_cases hkD : k = D
      · obtain ⟨rfl, rfl⟩ : n = y - 15 ∧ er = 0 := by have := hh.2 (by omega); simpa using this
        subst hkD
        have bx : (y - 15 == y - 15) = true := by simp
        have bk : ((k : Int) - 16 == (k : Int) - 16) = true := by simp
        clear hn hh htn
        go_wp2_with (go_at_call 36; refine hc.mono ?_; rintro e w5 ⟨rfl, rfl⟩)
        go_round
        case rel => exact ⟨k + 1, by omega, by go_num⟩
        case measure => simp [intOf]; omega
      · have hne : ¬ (n = y - 15 ∧ er = 0) := fun h => hkD (by have := hh.1 (by rw [h.1, h.2]); omega)
        have bk : ((k : Int) - 16 == (D : Int) - 16) = false := by simp; omega
        clear hn hh htn
        by_cases he : er = 0
        · have hxt : (n == y - 15) = false := by simp; exact fun e => hne ⟨e, he⟩
          subst he
          clear hne hkD
          go_wp2_with (go_at_call 36; refine hc.mono ?_; rintro e w5 ⟨rfl, rfl⟩)
          go_round
          case rel => exact ⟨k + 1, by omega, by go_num⟩
          case measure => simp [intOf]; omega
        · have hxe : (er == 0) = false := by simp; exact he
          clear hne hkD
          go_wp2_with (go_at_call 36; refine hc.mono ?_; rintro e w5 ⟨rfl, rfl⟩)
          go_round
          case rel => exact ⟨k + 1, by omega, by go_num⟩
          case measure => simp [intOf]; omega
    · obtain rfl : k = 32 := by omega
      go_wp2_with fail
      go_ret
      exact ⟨rfl, ht1⟩
end Go.Proofs.Ytheihohojmcbiaa
