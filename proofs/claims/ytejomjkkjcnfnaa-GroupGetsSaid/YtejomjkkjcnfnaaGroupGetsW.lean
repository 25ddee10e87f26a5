/-
  Law 18: GroupGets: the walk.
-/
import Derived.Test.YtejomjkkjcnfnaaLaw18
import Derived.Test.YtejomjkkjcnfnaaKitKept
namespace Go.Proofs.Ytejomjkkjcnfnaa
open Go.RowKit Go.Mine

theorem getN_len (bs : List UInt8) (i : Nat) : (getN bs i).2.1.length ≤ 32 := by
  unfold getN
  split
  · simp
  · split
    · simp
    · split
      · rename_i h; exact (sparesOf_bound h).2.1
      · simp
theorem getAll_len (bs : List UInt8) (i : Int) : (getAll bs i).2.1.length ≤ 32 := by
  unfold getAll
  split
  · simp
  · exact getN_len _ _
theorem openAll_len (bs : List UInt8) (i : Int) : (openAll bs i).2.2.1.length ≤ 32 := by
  unfold openAll
  split
  · simp
  · split
    · simp
    · split
      · simp
      · exact getAll_len _ _
/-- Written over: what was lent stays. -/
theorem Lent.over {w w' : World} {base b2 : Nat} {e e2 n : Nat} {v u : Value} {bs : List UInt8} {xs : List Value} (h : Lent w base e v bs) (hs : Sl w b2 e2 1 u n xs) (hb : ∀ g, v.ownBlock = some g → g < b2) (ht : OnlyIn u.ownBlock.toList w w') : Lent w' base e v bs :=
  h.only ht fun g hg hm => by
    have h1 := hb g hg
    have h2 := (hs.own_lt g (by simpa using hm)).1
    omega

set_option maxRecDepth 100000 in
set_option maxHeartbeats 4000000 in
theorem GroupGets_walk {w : World} (x : Value × List UInt8) (hx : Rd w 1 x.1 x.2.length (byteCells x.2) ∧ x.2.length ≤ maxLen) (i : Int) (hii : -9223372036854775808 ≤ i ∧ i ≤ 9223372036854775807) :
    Calls Try.prog 9 #[x.1, .int .i64 i] w fun e w' => e = .returned (.bool true) ∧ OnlyIn [] w w' := by
  obtain ⟨v, s⟩ := x
  obtain ⟨hr, hml⟩ := hx
  simp only at hr hml ⊢
  have hi := hii.2
  clear hii
  have hr' := hr
  obtain ⟨-, A, c, rfl, hc, -⟩ := hr'
  by_cases hl : 100 < s.length
  · have hd : decide ((100 : Int) < (s.length : Int)) = true := by simp; omega
    clear hr
    go_enter Try.func9, Try.ntmps9
    go_wp2_with (go_at_call 36; refine (awake_any18 _).mono ?_; rintro e w1 ⟨rfl, ht⟩)
    go_ret
    exact ⟨rfl, ht⟩
  have hd : decide ((100 : Int) < (s.length : Int)) = false := by simp; omega
  have hl9 : s.length ≤ 1000000000 := by omega
  have hR := fun W (hW : OnlyIn [] w W) => hr.cells (w' := W) fun p u hp => hW.cell hp (by simp)
  obtain ⟨⟨q, l, n, er⟩, hG⟩ : ∃ H, getAll s i = H := ⟨_, rfl⟩
  obtain ⟨⟨x, q2, l2, n2, er2⟩, hO⟩ : ∃ H, openAll s i = H := ⟨_, rfl⟩
  have hll : l.length ≤ 32 := by have := getAll_len s i; rw [hG] at this; exact this
  have hll2 : l2.length ≤ 32 := by have := openAll_len s i; rw [hO] at this; exact this
  have g1 := fun w v h => gGet_any w v s h hl9 i hi
  have g2 := fun w v h => rGet_any w v s h hl9 i hi
  have g3 := fun w v h => gOpen_any w v s h hl9 i hi
  have g4 := fun w v h => rOpen_any w v s h hl9 i hi
  rw [hG] at g1 g2
  rw [hO] at g3 g4
  unfold GetEnd at g1 g2
  unfold OpenEnd at g3 g4
  simp only at g1 g2 g3 g4
  clear hr hG hO hml
  go_enter Try.func9, Try.ntmps9
  go_wp2_with fail
  refine (LentBytes_any _ _ s (hR _ (OnlyIn.refl _ _)) hl9).mono ?_
  rintro e w1 ⟨u, rfl, hL, t1⟩
  go_wp2_with fail
  refine (g1 _ _ hL.rd).mono ?_
  rintro e w2 ⟨u2, rfl, hs2, t2⟩
  go_wp2_with fail
  refine (g2 _ _ (hR _ (t1.trans t2))).mono ?_
  rintro e w3 ⟨u3, rfl, hs3, t3⟩
  go_wp2_with fail
  refine (SameBytes_any _ _ _ l l ((Rd.of_sl hs2).cells fun p u hp => t3.cell hp (by simp)) (Rd.of_sl hs3)).mono ?_
  rintro e w4 ⟨rfl, rfl⟩
  go_wp2_with fail
  refine (OverBytes_any _ _ l.length l _ (hs2.only t3 (by simp)) (by omega)).mono ?_
  rintro e w5 ⟨rfl, t5⟩
  have hLb : ∀ g, u.ownBlock = some g → g < w1.heap.size := fun g hg => by
    obtain ⟨g', h1, _, h3⟩ := hL.own
    rw [h1] at hg; injection hg with hg; omega
  have hL5 := Lent.over (hL.only (t2.trans t3) (by simp)) (hs2.only t3 (by simp)) hLb t5
  have hO5 : OnlyIn [] w w5 := (t1.trans (t2.trans t3)).then t5 (fun j hj => .inr (Nat.le_trans t1.size ((hs2.only t3 (by simp)).own_lt j (by simpa using hj)).1))
  have hw15 : w1.heap.size ≤ w5.heap.size := Nat.le_trans (t2.trans t3).size t5.size
  clear g1 g2 hs2 hs3 t2 t3 t5
  go_wp2_with fail
  refine (g3 _ _ hL5.rd).mono ?_
  rintro e w6 ⟨u6, rfl, hs6, t6⟩
  go_wp2_with fail
  refine (g4 _ _ (hR _ (hO5.trans t6))).mono ?_
  rintro e w7 ⟨u7, rfl, hs7, t7⟩
  go_wp2_with fail
  refine (SameBytes_any _ _ _ l2 l2 ((Rd.of_sl hs6).cells fun p u hp => t7.cell hp (by simp)) (Rd.of_sl hs7)).mono ?_
  rintro e w8 ⟨rfl, rfl⟩
  go_wp2_with fail
  refine (OverBytes_any _ _ l2.length l2 _ (hs6.only t7 (by simp)) (by omega)).mono ?_
  rintro e w9 ⟨rfl, t9⟩
  have hL9 := Lent.over (hL5.only (t6.trans t7) (by simp)) (hs6.only t7 (by simp)) (fun g hg => Nat.lt_of_lt_of_le (hLb g hg) hw15) t9
  have hO9 : OnlyIn [] w w9 := (hO5.trans (t6.trans t7)).then t9 (fun j hj => .inr (Nat.le_trans hO5.size ((hs6.only t7 (by simp)).own_lt j (by simpa using hj)).1))
  clear g3 g4 hs6 hs7 t6 t7 t9
  go_wp2_with fail
  refine (KeptBytes_any _ _ _ _ s hL9 (hR _ hO9) hl9).mono ?_
  rintro e w10 ⟨rfl, t10⟩
  go_wp2_with fail
  refine (awake_any18 _).mono ?_
  rintro e w11 ⟨rfl, t11⟩
  go_wp2_with fail
  go_ret
  exact ⟨rfl, hO9.trans (t10.trans t11)⟩
end Go.Proofs.Ytejomjkkjcnfnaa
