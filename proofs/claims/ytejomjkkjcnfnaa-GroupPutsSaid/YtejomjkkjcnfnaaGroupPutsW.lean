/-
  Law 18: GroupPuts: the walk.
-/
import Derived.Test.YtejomjkkjcnfnaaLaw18
import Derived.Test.YtejomjkkjcnfnaaKitKept
namespace Go.Proofs.Ytejomjkkjcnfnaa
open Go.RowKit Go.Mine

set_option maxRecDepth 100000 in
set_option maxHeartbeats 4000000 in
theorem GroupPuts_walk {w : World} (n : Int) (hn : -9223372036854775808 ≤ n ∧ n ≤ 9223372036854775807) (q : Int) (hq : -9223372036854775808 ≤ q ∧ q ≤ 9223372036854775807) (x : Value × List UInt8) (hx : Rd w 1 x.1 x.2.length (byteCells x.2) ∧ x.2.length ≤ maxLen) :
    Calls Try.prog 12 #[.int .i64 n, .int .i64 q, x.1] w fun e w' => e = .returned (.bool true) ∧ OnlyIn [] w w' := by
  obtain ⟨v, s⟩ := x
  obtain ⟨hr, hml⟩ := hx
  simp only at hr hml ⊢
  clear hn hq
  have hr' := hr
  obtain ⟨-, A, c, rfl, hc, -⟩ := hr'
  by_cases hl : 60 < s.length
  · have hd : decide ((60 : Int) < (s.length : Int)) = true := by simp; omega
    clear hr
    go_enter Try.func12, Try.ntmps12
    go_wp2_with (go_at_call 36; refine (awake_any18 _).mono ?_; rintro e w1 ⟨rfl, ht⟩)
    go_ret
    exact ⟨rfl, ht⟩
  have hd : decide ((60 : Int) < (s.length : Int)) = false := by simp; omega
  have hl9 : s.length ≤ 1000000000 := by omega
  have hR := fun W (hW : OnlyIn [] w W) => hr.cells (w' := W) fun p u hp => hW.cell hp (by simp)
  obtain ⟨⟨a, ea⟩, hH⟩ : ∃ H, headOf q s = H := ⟨_, rfl⟩
  obtain ⟨⟨b, eb⟩, hB⟩ : ∃ H, beginOf n = H := ⟨_, rfl⟩
  obtain ⟨⟨d, ed⟩, hW⟩ : ∃ H, wholeOf n q s = H := ⟨_, rfl⟩
  have g1 := fun w v h => gPut_any w q v s h hl9
  have g2 := fun w v h => rPut_any w q v s h hl9
  have g3 := fun w => gStart_any w n
  have g4 := fun w => rStart_any18 w n
  have g5 := fun w v h => gWhole_any w n q v s h hl9
  have g6 := fun w v h => rWhole_any w n q v s h hl9
  rw [hH] at g1 g2
  rw [hB] at g3 g4
  rw [hW] at g5 g6
  unfold TextErr at g1 g2 g3 g4 g5 g6
  simp only at g1 g2 g3 g4 g5 g6
  have ba := str_beq a a
  have bb := str_beq b b
  have bd := str_beq d d
  rw [decide_eq_true rfl] at ba bb bd
  clear hr hH hB hW hml
  go_enter Try.func12, Try.ntmps12
  go_wp2_with (first | (go_at_call 37; refine (LentBytes_any _ _ s (hR _ (OnlyIn.refl _ _)) hl9).mono ?_; rintro e w1 ⟨u, rfl, hL, t1⟩) | (go_at_call 43; refine (g1 _ _ hL.rd).mono ?_; rintro e w2 ⟨rfl, rfl⟩) | (go_at_call 48; refine (g2 _ _ (hR _ t1)).mono ?_; rintro e w2 ⟨rfl, t2⟩) | (go_at_call 49; refine (g3 _).mono ?_; rintro e w3 ⟨rfl, rfl⟩) | (go_at_call 50; refine (g4 _).mono ?_; rintro e w4 ⟨rfl, t4⟩) | (go_at_call 51; refine (g5 _ _ ((hL.only (t2.trans t4) (by simp)).rd)).mono ?_; rintro e w5 ⟨rfl, rfl⟩) | (go_at_call 52; refine (g6 _ _ (hR _ (t1.trans (t2.trans t4)))).mono ?_; rintro e w6 ⟨rfl, t6⟩) | (go_at_call 42; refine (KeptBytes_any _ _ _ _ s (hL.only ((t2.trans t4).trans t6) (by simp)) (hR _ (t1.trans ((t2.trans t4).trans t6))) hl9).mono ?_; rintro e w7 ⟨rfl, t7⟩) | (go_at_call 36; refine (awake_any18 _).mono ?_; rintro e w8 ⟨rfl, t8⟩))
  go_ret
  exact ⟨rfl, (t1.trans ((t2.trans t4).trans t6)).trans (t7.trans t8)⟩
end Go.Proofs.Ytejomjkkjcnfnaa
