/-
  Law 03: PrefixNone: the walk.
-/
import Derived.Test.YtboipjdgccbjmaaKnown03
namespace Go.Proofs.Ytboipjdgccbjmaa
open Go.RowKit Go.Mine

set_option maxRecDepth 100000 in
set_option maxHeartbeats 2000000 in
theorem PrefixNone_walk {w : World} (x : Value × List UInt8) (hx : Rd w 1 x.1 x.2.length (byteCells x.2) ∧ x.2.length ≤ maxLen) (i : Int) (_hi : -9223372036854775808 ≤ i ∧ i ≤ 9223372036854775807) (n : Int) (_hn : -9223372036854775808 ≤ n ∧ n ≤ 9223372036854775807) :
    Calls Try.prog 9 #[x.1, .int .i64 i, .int .i64 n] w fun e w' => e = .returned (.bool true) ∧ OnlyIn [] w w' := by
  obtain ⟨v, s⟩ := x
  obtain ⟨hr, hml⟩ := hx
  simp only at hr hml ⊢
  obtain ⟨-, A, c, rfl, hc, -⟩ := hr
  clear _hn _hi
  by_cases hl : 100 < s.length
  · have hd : decide ((100 : Int) < (s.length : Int)) = true := by simp; omega
    go_enter Try.func9, Try.ntmps9
    go_wp2_with (go_at_call 36; refine (awake_any03 _).mono ?_; rintro e w1 ⟨rfl, ht⟩)
    go_ret
    exact ⟨rfl, ht⟩
  have hd : decide ((100 : Int) < (s.length : Int)) = false := by simp; omega
  go_enter Try.func9, Try.ntmps9
  go_wp2_with fail
  generalize hw2 : World.alloc (World.alloc _ _) _ = w2
  have hO := ((Keep.start [] w).more2 hw2).1
  clear hw2
  go_loopw [8, 9, 10, 11, 12, 13] (fun i _ _ _ _ _ wr => ∃ k : Nat, k ≤ 2 ∧ i = .int .i64 (k : Int) ∧ OnlyIn [] w2 wr) (fun i _ _ _ _ _ _ => 2 - (intOf i).toNat)
  case atStart => exact ⟨0, by omega, rfl, OnlyIn.refl _ _⟩
  case round =>
    obtain ⟨k, hk, rfl, hto⟩ := hrel
    have hOr := hO.only0 hto
    have c0 := hOr.cell 0 0 rfl rfl
    have c1 := hOr.cell 0 1 rfl rfl
    have z2 := hOr.cell 1 2 rfl rfl
    have hnot : ∀ W, OnlyIn [] wr W → NoT W (some ⟨w.heap.size, 0, none⟩) := fun W hW => .inr ⟨_, rfl, hW.cell z2 (by simp)⟩
    have hpt : ∀ W, OnlyIn [] wr W → W.cell? ⟨w.heap.size + 1, 0, none⟩ = some (.pointer none) ∧ W.cell? ⟨w.heap.size + 1, 1, none⟩ = some (.pointer (some ⟨w.heap.size, 0, none⟩)) := fun W hW => ⟨hW.cell c0 (by simp), hW.cell c1 (by simp)⟩
    rcases (by omega : k = 0 ∨ k = 1 ∨ k = 2) with rfl | rfl | rfl
    · clear hO hOr
      go_wp2_with fail
      refine (TGet_none wr none (.inl rfl) A s.length c i).mono ?_
      rintro e w3 ⟨rfl, ht3⟩
      have e0 := (hpt w3 ht3).1
      clear c0 c1 z2
      go_wp2_with (first | (go_at_call 44; refine (TPut_none w3 none (.inl rfl) n).mono ?_; rintro e w4 ⟨rfl, rfl⟩) | (go_at_call 46; refine (TCodes_none w3 none (.inl rfl)).mono ?_; rintro e w5 ⟨rfl, rfl⟩))
      go_roundw
      case rel => exact ⟨1, by omega, by go_num, hto.then ht3 (by simp)⟩
      case measure => simp [intOf]
    · clear hO hOr
      go_wp2_with fail
      refine (TGet_none wr _ (hnot wr (OnlyIn.refl _ _)) A s.length c i).mono ?_
      rintro e w3 ⟨rfl, ht3⟩
      have e0 := (hpt w3 ht3).2
      have hn3 := hnot w3 ht3
      clear c0 c1 z2 hnot hpt
      go_wp2_with (first | (go_at_call 44; refine (TPut_none w3 _ hn3 n).mono ?_; rintro e w4 ⟨rfl, rfl⟩) | (go_at_call 46; refine (TCodes_none w3 _ hn3).mono ?_; rintro e w5 ⟨rfl, rfl⟩))
      go_roundw
      case rel => exact ⟨2, by omega, by go_num, hto.then ht3 (by simp)⟩
      case measure => simp [intOf]
    · have hton := (hO.only.then hto (by simp))
      clear hO hOr hto c0 c1 z2 hnot hpt
      go_wp2_with (go_at_call 36; refine (awake_any03 _).mono ?_; rintro e w1 ⟨rfl, ht⟩)
      go_ret
      exact ⟨rfl, hton.then ht (by simp)⟩
end Go.Proofs.Ytboipjdgccbjmaa
