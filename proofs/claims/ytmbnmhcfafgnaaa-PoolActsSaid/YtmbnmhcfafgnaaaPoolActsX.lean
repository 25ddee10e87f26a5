/-
  Law 23: PoolActs: the walk over a pool that is made.
-/
import Derived.Test.YtmbnmhcfafgnaaaPoolActsW
namespace Go.Proofs.Ytmbnmhcfafgnaaa
open Go.RowKit Go.Mine

set_option maxRecDepth 100000 in
set_option maxHeartbeats 4000000 in
theorem acts_ok (w : World) (N : Nat) (a1 : Int) (A : Option Addr) (n c : Nat) (acts : List Act23) (hn : acts.length = n) (hA : 0 < n → ∃ g off, A = some ⟨g, off, none⟩ ∧ ∀ j u, (acts.flatMap Act23.cells)[j]? = some u → w.cell? ⟨g, off + j, none⟩ = some u)
    (hok : ∀ a ∈ acts, a.ok) (hac : n ≤ 80) (hN : 1 ≤ N ∧ N ≤ 12) (hq : 1 ≤ a1 ∧ a1 ≤ N) :
    Calls Try.prog 10 #[.int .i64 (N : Int), .int .i64 a1, .slice A n c] w fun e w' => e = .returned (.bool true) ∧ OnlyIn [] w w' := by
  have haw := awake23 w w (OnlyIn.refl _ _)
  have hp := pNew_ok w N a1 (by omega)
  have HA := Lib.hid hA
  have HN := Lib.hid hn
  have HK := Lib.hid hok
  have d1 : decide (80 < (n : Int)) = false := decide_eq_false (by omega)
  have d1' : decide (80 < n) = false := decide_eq_false (by omega)
  have d2 : decide (12 < (N : Int)) = false := decide_eq_false (by omega)
  have d2' : decide (12 < N) = false := decide_eq_false (by omega)
  clear hA hn hok
  go_enter Try.func10, Try.ntmps10
  go_wp2_with fail
  go_loopw [7] (fun i wr => ∃ k : Nat, k ≤ n ∧ i = .int .i64 (k : Int) ∧ w = wr) (fun i _ => n - (RowKit.intOf i).toNat)
  case atStart => exact ⟨0, by omega, rfl, rfl⟩
  case round =>
    obtain ⟨k, hk, rfl, rfl⟩ := hrel
    by_cases hlt : k < n
    · obtain ⟨g, off, rfl, hg⟩ := HA.out (by omega)
      obtain ⟨⟨kd, fr, ow, z⟩, hak⟩ : ∃ a, acts[k]? = some a := ⟨_, List.getElem?_eq_getElem (by rw [HN.out]; exact hlt)⟩
      have y3 := hg (k * 4 + 3) (.int .i64 z) (by rw [flat_get Act23.len acts _ 3 (by omega), hak]; rfl)
      rw [← Nat.add_assoc] at y3
      clear hg hak
      by_cases e1 : 400 < z
      · have d5 : decide (400 < z) = true := decide_eq_true e1
        by_cases e2 : z ≤ 152064
        · have d6 : decide (z ≤ 152064) = true := decide_eq_true e2
          clear hp
          go_wp2_with fail
          refine haw.mono ?_
          rintro e w1 ⟨rfl, o1⟩
          replace o1 := Lib.hid o1
          clear haw
          go_wp2_with fail
          go_ret
          exact ⟨rfl, o1.out⟩
        · have d6 : decide (z ≤ 152064) = false := decide_eq_false e2
          go_wp2_with fail
          go_roundw
          case rel => exact ⟨k + 1, by omega, by first | rfl | go_num, by first | rfl | trivial⟩
          case measure => simp [RowKit.intOf]; omega
      · have d5 : decide (400 < z) = false := decide_eq_false e1
        go_wp2_with fail
        go_roundw
        case rel => exact ⟨k + 1, by omega, by first | rfl | go_num, by first | rfl | trivial⟩
        case measure => simp [RowKit.intOf]; omega
    · obtain rfl : n = k := by omega
      clear haw
      go_wp2_with fail
      refine hp.mono ?_
      rintro e w2 ⟨b, B, iv, rfl, hP, t2⟩
      have hr := rNew_ok w2 N a1 (by omega)
      have HP := Lib.hid (And.intro hP t2)
      clear hp hP t2
      go_wp2_with fail
      refine hr.mono ?_
      rintro e w3 ⟨b2, lb, R, rfl, hR, hRe, t3⟩
      obtain ⟨hP, t2⟩ := HP.out
      have hBo : Bo w w3 w.heap.size b N (64 * 0) a1 (emptyFs N) (ownL b B iv) w2.heap.size b2 lb R :=
        ⟨hP.pls.only t3 (by simp), hR, fun k hk hm => by
          have h1 := (hR.lt k hk).1
          have h2 := hP.pls.lt k hm
          omega, t2.trans t3, Nat.le_refl _, t2.size⟩
      have HC := Lib.hid (show Ac w w3 w.heap.size b N (64 * 0) a1 w2.heap.size b2 lb ((0 : Nat) : Int) from ⟨_, _, R, hBo, hRe, OkF.empty N⟩)
      generalize w2.heap.size = base2 at HC
      clear hr HP hR hRe t3 hP t2 hBo
      go_wp2_with fail
      go_loopw [12] (fun i wx => ∃ k : Nat, k ≤ n ∧ i = .int .i64 (k : Int) ∧ Hid (Ac w wx w.heap.size b N (64 * k) a1 base2 b2 lb (k : Int))) (fun i _ => n - (RowKit.intOf i).toNat)
      case atStart => exact ⟨0, by omega, rfl, HC⟩
      case round =>
        clear HC
        obtain ⟨k, hk, rfl, HC⟩ := hrel
        obtain ⟨fs, L, R, hB, hRe, hOk⟩ := HC.out
        by_cases hlt : k < n
        · obtain ⟨g, off, rfl, hg⟩ := HA.out (by omega)
          obtain ⟨⟨kd, fr, ow, z⟩, hak⟩ : ∃ a, acts[k]? = some a := ⟨_, List.getElem?_eq_getElem (by rw [HN.out]; exact hlt)⟩
          have hx : ∀ j, j < 4 → (acts.flatMap Act23.cells)[k * 4 + j]? = ((⟨kd, fr, ow, z⟩ : Act23).cells)[j]? := fun j hj => by
            rw [flat_get Act23.len acts _ j hj, hak]
            rfl
          have hao := HK.out _ (List.mem_of_getElem? hak)
          have hc : ∀ W, OnlyIn [] w W → W.cell? ⟨g, off + k * 4, none⟩ = some (.int .i64 kd) ∧ W.cell? ⟨g, off + k * 4 + 1, none⟩ = some (.int .i64 fr) ∧ W.cell? ⟨g, off + k * 4 + 2, none⟩ = some (.int .i64 ow) ∧ W.cell? ⟨g, off + k * 4 + 3, none⟩ = some (.int .i64 z) := fun W hW => by
            have y0 := hW.cell (hg _ _ (hx 0 (by omega))) (by simp)
            have y1 := hW.cell (hg _ _ (hx 1 (by omega))) (by simp)
            have y2 := hW.cell (hg _ _ (hx 2 (by omega))) (by simp)
            have y3 := hW.cell (hg _ _ (hx 3 (by omega))) (by simp)
            rw [Nat.add_zero] at y0
            rw [← Nat.add_assoc] at y1 y2 y3
            exact ⟨y0, y1, y2, y3⟩
          obtain ⟨y0, y1, y2, y3⟩ := hc _ hB.only
          have hact := acted_any hB hRe hOk (by omega) (by omega) (by omega) ⟨kd, fr, ow, z⟩ hao
          have HO := Lib.hid (And.intro hc hao)
          unfold Act23.val at hact
          clear hB hRe hOk hg hak hx hao hc HC
          go_wp2_with fail
          refine hact.mono ?_
          rintro e w4 ⟨rfl, fs4, L4, R4, hB4, hRe4, hOk4⟩
          obtain ⟨-, -, x2, -⟩ := HO.out.1 _ hB4.only
          have hal := alike23 hB4 hRe4 ow HO.out.2.2.2.1
          have HB4 := Lib.hid (show Ac w w4 w.heap.size b N (64 * k + 64) a1 base2 b2 lb ((k : Int) + 1) from ⟨fs4, L4, R4, hB4, hRe4, hOk4⟩)
          clear hact hB4 hRe4 hOk4 y0 y1 y2 y3
          go_wp2_with fail
          refine hal.mono ?_
          rintro e w5 ⟨rfl, t5⟩
          have HB5 := Lib.hid (HB4.out.only0 t5)
          clear hal t5 HB4 x2
          go_wp2_with fail
          go_roundw
          case rel => exact ⟨k + 1, by omega, by go_num, by rw [show 64 * (k + 1) = 64 * k + 64 by omega, show ((k + 1 : Nat) : Int) = (k : Int) + 1 by omega]; exact HB5⟩
          case measure => simp [RowKit.intOf]; omega
        · obtain rfl : n = k := by omega
          have haw := awake23 w wr hB.only
          clear hB hRe hOk HC
          go_wp2_with fail
          refine haw.mono ?_
          rintro e w6 ⟨rfl, o6⟩
          replace o6 := Lib.hid o6
          clear haw
          go_wp2_with fail
          go_ret
          exact ⟨rfl, o6.out⟩

set_option maxRecDepth 100000 in
theorem PoolActs_walk {w : World} (a0 : Int) (g0 : -9223372036854775808 ≤ a0 ∧ a0 ≤ 9223372036854775807) (a1 : Int) (g1 : -9223372036854775808 ≤ a1 ∧ a1 ≤ 9223372036854775807) (x : Value × List Act23) (y : Rd w 4 x.1 x.2.length (x.2.flatMap Act23.cells) ∧ (∀ a ∈ x.2, a.ok) ∧ x.2.length ≤ maxLen) :
    Calls Try.prog 10 #[.int .i64 a0, .int .i64 a1, x.1] w fun e w' => e = .returned (.bool true) ∧ OnlyIn [] w w' := by
  obtain ⟨v, acts⟩ := x
  obtain ⟨⟨-, A, c, hv, -, hA⟩, hok, -⟩ := y
  simp only at hv hA hok ⊢
  subst hv
  by_cases h1 : 80 < acts.length ∨ (12 < a0 ∧ a0 ≤ 64)
  · exact acts_long w a0 a1 A acts.length c h1
  · by_cases h2 : 1 ≤ a0 ∧ a0 ≤ 64 ∧ 1 ≤ a1 ∧ a1 ≤ a0
    · obtain ⟨N, rfl⟩ := Int.eq_ofNat_of_zero_le (by omega : 0 ≤ a0)
      exact acts_ok w N a1 A acts.length c acts rfl hA hok (by omega) (by omega) (by omega)
    · exact acts_bad w a0 a1 A acts.length c acts rfl hA (by omega) (by omega) h2
end Go.Proofs.Ytmbnmhcfafgnaaa
