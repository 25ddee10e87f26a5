/-
  Law 06: gets, puts, turns, diffs, awake; VectorGets, VectorTurns: the walks.
-/
import Derived.Test.YtheihohojmcbiaaVecRef
import Derived.Test.YtheihohojmcbiaaKitKept
namespace Go.Proofs.Ytheihohojmcbiaa
open Go.RowKit Go.Mine

set_option maxRecDepth 100000 in
theorem gets06_yes (w : World) (v : Value) (bs : List UInt8) (hr : Rd w 1 v bs.length (byteCells bs)) (hl : bs.length ≤ 1000000000) (want size err : Int) (hy : getT VT bs 0 = (want, size, err)) :
    Calls Try.prog 42 #[.int .i64 want, .int .i64 size, .int .i64 err, v] w fun e w' => e = .returned (.bool true) ∧ OnlyIn [] w w' := by
  have hg := vGet_any w v bs hr hl 0 (by omega)
  rw [hy] at hg
  simp only at hg
  obtain ⟨A, c, rfl⟩ : ∃ A c, v = .slice A bs.length c := by
    obtain ⟨-, A, c, rfl, -⟩ := hr
    exact ⟨A, c, rfl⟩
  have b1 : (want == want) = true := by simp
  have b2 : (size == size) = true := by simp
  have b3 : (err == err) = true := by simp
  clear hy hr
  go_enter Try.func42, Try.ntmps42
  go_wp2_with (go_at_call 32; refine hg.mono ?_; rintro e w1 ⟨rfl, ht1⟩)
  go_ret
  exact ⟨by simp, ht1⟩
set_option maxRecDepth 100000 in
theorem puts06_yes (w : World) (d : Int) (want : List UInt8) (hy : vputF d = (str want, 0)) : Calls Try.prog 43 #[.int .i64 d, .string (str want)] w fun e w' => e = .returned (.bool true) ∧ w = w' := by
  have hg := vPut_any w d
  rw [hy] at hg
  simp only at hg
  have hbq := str_beq want want
  rw [decide_eq_true rfl] at hbq
  clear hy
  go_enter Try.func43, Try.ntmps43
  go_wp2_with (go_at_call 34; refine hg.mono ?_; rintro e w1 ⟨rfl, rfl⟩)
  go_ret
  exact ⟨by simp, rfl⟩
set_option maxRecDepth 100000 in
theorem turns06_yes (w : World) (p d want err : Int) (hy : turnF p d = (want, err)) : Calls Try.prog 44 #[.int .i64 p, .int .i64 d, .int .i64 want, .int .i64 err] w fun e w' => e = .returned (.bool true) ∧ w = w' := by
  have hg := vTurn_any w p d
  rw [hy] at hg
  simp only at hg
  have b1 : (want == want) = true := by simp
  have b3 : (err == err) = true := by simp
  clear hy
  go_enter Try.func44, Try.ntmps44
  go_wp2_with (go_at_call 36; refine hg.mono ?_; rintro e w1 ⟨rfl, rfl⟩)
  go_ret
  exact ⟨by simp, rfl⟩
set_option maxRecDepth 100000 in
theorem diffs06_yes (w : World) (p d want : Int) (hy : diffF p d = (want, 0)) : Calls Try.prog 45 #[.int .i64 p, .int .i64 d, .int .i64 want] w fun e w' => e = .returned (.bool true) ∧ w = w' := by
  have hg := vDiff_any w p d
  rw [hy] at hg
  simp only at hg
  have b1 : (want == want) = true := by simp
  clear hy
  go_enter Try.func45, Try.ntmps45
  go_wp2_with (go_at_call 38; refine hg.mono ?_; rintro e w1 ⟨rfl, rfl⟩)
  go_ret
  exact ⟨by simp, rfl⟩

set_option maxRecDepth 100000 in
set_option maxHeartbeats 4000000 in
theorem awake06 (w : World) : Calls Try.prog 31 #[] w fun e w' => e = .returned (.bool true) ∧ OnlyIn [] w w' := by
  go_enter Try.func31, Try.ntmps31
  go_wp2_with fail
  refine (gets06_yes _ _ [96] (Rd.lit w (byteCells [96]) 5 1 rfl) (by decide) (-1) 3 0 (by decide +kernel)).mono ?_
  rintro e w1 ⟨rfl, ht1⟩
  have o1 := ((OnlyIn.refl [] w).alloc (.cells (byteCells [96]).toArray 5)).trans ht1
  clear ht1
  go_wp2_with fail
  refine (gets06_yes _ _ [3, 32] (Rd.lit w1 (byteCells [3, 32]) 5 2 rfl) (by decide) (-16) 11 0 (by decide +kernel)).mono ?_
  rintro e w2 ⟨rfl, ht2⟩
  have o2 := (o1.alloc (.cells (byteCells [3, 32]).toArray 5)).trans ht2
  clear ht2 o1
  go_wp2_with fail
  refine (puts06_yes _ 15 [48, 48, 48, 48, 48, 48, 49, 49, 48, 49, 48] rfl).mono ?_
  rintro e w3 ⟨rfl, rfl⟩
  go_wp2_with fail
  refine (turns06_yes _ 10 10 (-12) 0 rfl).mono ?_
  rintro e w4 ⟨rfl, rfl⟩
  go_wp2_with fail
  refine (diffs06_yes _ 10 (-12) 10 rfl).mono ?_
  rintro e w5 ⟨rfl, rfl⟩
  go_wp2_with fail
  go_ret
  exact ⟨rfl, o2⟩

set_option maxRecDepth 100000 in
set_option maxHeartbeats 2000000 in
theorem VectorGets_walk {w : World} (z : Value × List UInt8) (hzz : Rd w 1 z.1 z.2.length (byteCells z.2) ∧ z.2.length ≤ maxLen) (i : Int) (hi : -9223372036854775808 ≤ i ∧ i ≤ 9223372036854775807) :
    Calls Try.prog 8 #[z.1, .int .i64 i] w fun e w' => e = .returned (.bool true) ∧ OnlyIn [] w w' := by
  obtain ⟨bv, bs⟩ := z
  obtain ⟨hrb, hbl⟩ := hzz
  simp only at hrb hbl ⊢
  simp only [maxLen] at hbl
  obtain ⟨E, f, rfl, hff⟩ : ∃ A c, bv = .slice A bs.length c ∧ bs.length ≤ c := by
    obtain ⟨-, A, c, h1, h2, -⟩ := hrb; exact ⟨A, c, h1, h2⟩
  have haw := fun w => awake06 w
  by_cases h100 : 100 < bs.length
  · have hd : decide ((100 : Int) < (bs.length : Int)) = true := by simp; omega
    clear hrb
    go_enter Try.func8, Try.ntmps8
    go_wp2_with (go_at_call 31; refine (haw _).mono ?_; rintro e w2 ⟨rfl, ht⟩)
    go_ret
    exact ⟨rfl, ht⟩
  have hd : decide ((100 : Int) < (bs.length : Int)) = false := by simp; omega
  have hln := LentBytes_any w _ bs hrb (by omega)
  have hg1 := fun w1 {u} (hL : Lent w1 w.heap.size 5 u bs) => vGet_any w1 u bs hL.rd (by omega) i hi.2
  have hg2 := fun w1 (ho : OnlyIn [] w w1) => rvGet_any w1 _ bs (hrb.cells fun p u hp => ho.cell hp (by simp)) (by omega) i hi.2
  have hkp := fun w1 {u} (hL : Lent w1 w.heap.size 5 u bs) (ho : OnlyIn [] w w1) => KeptBytes_any w1 u _ _ bs hL (hrb.cells fun p u hp => ho.cell hp (by simp)) (by omega)
  obtain ⟨⟨x, m, er⟩, hx⟩ : ∃ x, getT VT bs i = x := ⟨_, rfl⟩
  rw [hx] at hg1 hg2
  simp only at hg1 hg2
  have bx : (x == x) = true := by simp
  have bm : (m == m) = true := by simp
  have be : (er == er) = true := by simp
  obtain ⟨NB, hNB⟩ : ∃ NB, bs.length = NB := ⟨_, rfl⟩
  rw [hNB] at hff h100 hd hln hg2 hkp ⊢
  have HN := Lib.hid (And.intro hNB hx)
  clear hx hrb hbl hNB
  go_enter Try.func8, Try.ntmps8
  go_wp2_with fail
  refine hln.mono ?_
  rintro e w1 ⟨u, rfl, hL, h1⟩
  have hL0 := hL
  obtain ⟨g, off, cap, rfl, -⟩ := hL0
  have hg1' := hg1 w1 hL
  have HL := Lib.hid hL
  clear hg1 hL hln
  have hkp' := fun w1 => hkp w1 (u := .slice (some ⟨g, off, none⟩) bs.length cap)
  rw [HN.out.1] at hg1' hkp' ⊢
  go_wp2_with (first | (go_at_call 32; refine hg1'.mono ?_; rintro e w2 ⟨rfl, h2⟩) | (go_at_call 33; refine (hg2 _ (h1.trans h2)).mono ?_; rintro e w3 ⟨rfl, h3⟩) | (go_at_call 17; refine (hkp' _ (by have := (HL.out.only h2 (by simp)).only h3 (by simp); rwa [HN.out.1] at this) ((h1.trans h2).trans h3)).mono ?_; rintro e w4 ⟨rfl, h4⟩) | (go_at_call 31; refine (haw _).mono ?_; rintro e w5 ⟨rfl, h5⟩))
  go_ret
  exact ⟨rfl, (((h1.trans h2).trans h3).trans h4).trans h5⟩

set_option maxRecDepth 100000 in
set_option maxHeartbeats 2000000 in
theorem VectorTurns_walk {w : World} (p : Int) (_hp : -9223372036854775808 ≤ p ∧ p ≤ 9223372036854775807) (d : Int) (_hd : -9223372036854775808 ≤ d ∧ d ≤ 9223372036854775807) (a : Int) (_ha : -9223372036854775808 ≤ a ∧ a ≤ 9223372036854775807) (had : Bool) :
    Calls Try.prog 9 #[.int .i64 p, .int .i64 d, .int .i64 a, .bool had] w fun e w' => e = .returned (.bool true) ∧ OnlyIn [] w w' := by
  have haw := fun w => awake06 w
  have p1 := fun w => vPut_any w d
  have p2 := fun w => rvPut_any w d
  have t1 := fun w => vTurn_any w p d
  have t2 := fun w => rvTurn_any w p d
  have d1 := fun w => vDiff_any w p d
  have d2 := fun w => rvDiff_any w p d
  have q1 := fun w => vPred_any w a d had p (-3)
  have q2 := fun w => rvPred_any w a d had p (-3)
  obtain ⟨⟨s, es⟩, hs⟩ : ∃ y, vputF d = y := ⟨_, rfl⟩
  obtain ⟨⟨n, g⟩, hn⟩ : ∃ y, turnF p d = y := ⟨_, rfl⟩
  obtain ⟨⟨c, i⟩, hc⟩ : ∃ y, diffF p d = y := ⟨_, rfl⟩
  obtain ⟨⟨x, y⟩, hx⟩ : ∃ y, predF a d had p (-3) = y := ⟨_, rfl⟩
  rw [hs] at p1 p2
  rw [hn] at t1 t2
  rw [hc] at d1 d2
  rw [hx] at q1 q2
  simp only at p1 p2 t1 t2 d1 d2 q1 q2
  have b0 : (s.toList == s.toList) = true := by simp
  have b1 : (es == es) = true := by simp
  have b2 : (n == n) = true := by simp
  have b3 : (g == g) = true := by simp
  have b4 : (c == c) = true := by simp
  have b5 : (i == i) = true := by simp
  have b6 : (x == x) = true := by simp
  have b7 : (y == y) = true := by simp
  clear hs hn hc hx
  go_enter Try.func9, Try.ntmps9
  go_wp2_with (first | (go_at_call 34; refine (p1 _).mono ?_; rintro e w1 ⟨rfl, rfl⟩) | (go_at_call 35; refine (p2 _).mono ?_; rintro e w1 ⟨rfl, h1⟩) | (go_at_call 36; refine (t1 _).mono ?_; rintro e w2 ⟨rfl, rfl⟩) | (go_at_call 37; refine (t2 _).mono ?_; rintro e w2 ⟨rfl, rfl⟩) | (go_at_call 38; refine (d1 _).mono ?_; rintro e w2 ⟨rfl, rfl⟩) | (go_at_call 39; refine (d2 _).mono ?_; rintro e w2 ⟨rfl, rfl⟩) | (go_at_call 40; refine (q1 _).mono ?_; rintro e w2 ⟨rfl, rfl⟩) | (go_at_call 41; refine (q2 _).mono ?_; rintro e w2 ⟨rfl, rfl⟩) | (go_at_call 31; refine (haw _).mono ?_; rintro e w5 ⟨rfl, h5⟩))
  go_ret
  exact ⟨rfl, h1.trans h5⟩
end Go.Proofs.Ytheihohojmcbiaa
