/-
  Law 18: puts, gets, opens, awake.
-/
import Derived.Test.YtejomjkkjcnfnaaGroupOpen
namespace Go.Mine
theorem Rd.lit2 {size : Nat} (w : World) (o : Obj) (cs : List Value) (t : TypeId) (m : Nat) (hl : cs.length = m * size) : Rd ((w.alloc o).alloc (.cells cs.toArray t)) size (.slice (some ⟨w.heap.size + 1, 0, none⟩) m m) m cs := by
  have := Rd.lit (size := size) (w.alloc o) cs t m hl
  have e : (w.alloc o).heap.size = w.heap.size + 1 := by simp
  rwa [e] at this
theorem Rd.alloc {w : World} {size n : Nat} {v : Value} {xs : List Value} (h : Rd w size v n xs) (o : Obj) : Rd (w.alloc o) size v n xs := h.cells fun _ _ hp => ((OnlyIn.refl [] w).alloc o).cell hp (by simp)
end Go.Mine
namespace Go.Proofs.Ytejomjkkjcnfnaa
open Go.RowKit Go.Mine

set_option maxRecDepth 100000 in
theorem puts_yes18 (w : World) (want : List UInt8) (q : Int) (v : Value) (s : List UInt8) (hr : Rd w 1 v s.length (byteCells s)) (hl : s.length ≤ 1000000000) (h : headOf q s = (want, 0)) :
    Calls Try.prog 53 #[.string (str want), .int .i64 q, v] w fun e w' => e = .returned (.bool true) ∧ OnlyIn [] w w' := by
  have hp := gPut_any w q v s hr hl
  rw [h] at hp
  have hb := str_beq want want
  rw [decide_eq_true rfl] at hb
  clear hr
  go_enter Try.func53, Try.ntmps53
  go_wp2_with (go_at_call 43; refine hp.mono ?_; rintro e w1 ⟨rfl, rfl⟩)
  go_ret
  exact ⟨rfl, OnlyIn.refl _ _⟩

set_option maxRecDepth 100000 in
theorem gets_yes18 (w : World) (v : Value) (bs : List UInt8) (hr : Rd w 1 v bs.length (byteCells bs)) (hl : bs.length ≤ 1000000000) (u : Value) (sp : List UInt8) (hu : Rd w 1 u sp.length (byteCells sp)) (q n er : Int)
    (h : ((getAll bs 0).1 : Int) = q ∧ (getAll bs 0).2.1 = sp ∧ ((getAll bs 0).2.2.1 : Int) = n ∧ (getAll bs 0).2.2.2 = er) :
    Calls Try.prog 45 #[v, .int .i64 q, u, .int .i64 n, .int .i64 er] w fun e w' => e = .returned (.bool true) ∧ OnlyIn [] w w' := by
  have hp := gGet_any w v bs hr hl 0 (by decide)
  obtain ⟨rfl, rfl, rfl, rfl⟩ := h
  obtain ⟨⟨q, l, m, er⟩, hG⟩ : ∃ G, getAll bs 0 = G := ⟨_, rfl⟩
  rw [hG] at hp hu ⊢
  simp only at hu ⊢
  clear hr hG
  go_enter Try.func45, Try.ntmps45
  go_wp2_with (first | (go_at_call 38; refine hp.mono ?_; rintro e w1 ⟨u2, rfl, hs2, ht2⟩) | (go_at_call 24; refine (SameBytes_any _ _ _ l l (Rd.of_sl hs2) (hu.cells fun p u hp => ht2.cell hp (by simp))).mono ?_; rintro e w3 ⟨rfl, rfl⟩))
  go_ret
  exact ⟨rfl, ht2⟩

set_option maxRecDepth 100000 in
theorem opens_yes18 (w : World) (v : Value) (bs : List UInt8) (hr : Rd w 1 v bs.length (byteCells bs)) (hl : bs.length ≤ 1000000000) (u : Value) (sp : List UInt8) (hu : Rd w 1 u sp.length (byteCells sp)) (x q n er : Int)
    (h : (openAll bs 0).1 = x ∧ ((openAll bs 0).2.1 : Int) = q ∧ (openAll bs 0).2.2.1 = sp ∧ (openAll bs 0).2.2.2.1 = n ∧ (openAll bs 0).2.2.2.2 = er) :
    Calls Try.prog 54 #[v, .int .i64 x, .int .i64 q, u, .int .i64 n, .int .i64 er] w fun e w' => e = .returned (.bool true) ∧ OnlyIn [] w w' := by
  have hp := gOpen_any w v bs hr hl 0 (by decide)
  obtain ⟨rfl, rfl, rfl, rfl, rfl⟩ := h
  obtain ⟨⟨x, q, l, m, er⟩, hG⟩ : ∃ G, openAll bs 0 = G := ⟨_, rfl⟩
  rw [hG] at hp hu ⊢
  simp only at hu ⊢
  clear hr hG
  go_enter Try.func54, Try.ntmps54
  go_wp2_with (first | (go_at_call 40; refine hp.mono ?_; rintro e w1 ⟨u2, rfl, hs2, ht2⟩) | (go_at_call 24; refine (SameBytes_any _ _ _ l l (Rd.of_sl hs2) (hu.cells fun p u hp => ht2.cell hp (by simp))).mono ?_; rintro e w3 ⟨rfl, rfl⟩))
  go_ret
  exact ⟨rfl, ht2⟩

set_option maxRecDepth 100000 in
set_option maxHeartbeats 1000000 in
theorem awake_any18 (w : World) : Calls Try.prog 36 #[] w fun e w' => e = .returned (.bool true) ∧ OnlyIn [] w w' := by
  go_enter Try.func36, Try.ntmps36
  go_wp2_with fail
  refine (puts_yes18 _ [49, 49, 49, 49, 49, 49, 49, 48, 49, 48, 48, 49, 48, 49, 48] 31 _ [165] (Rd.lit w (byteCells [165]) 5 1 rfl) (by decide) (by decide)).mono ?_
  rintro e w1 ⟨rfl, ht⟩
  have hO1 : OnlyIn [] w w1 := ((OnlyIn.refl _ _).alloc _).trans ht
  clear ht
  go_wp2_with fail
  refine (gets_yes18 _ _ [254, 148] ((Rd.lit w1 (byteCells [254, 148]) 5 2 rfl).alloc _) (by decide) _ [165] (Rd.lit2 w1 _ (byteCells [165]) 5 1 rfl) 31 15 0 (by decide)).mono ?_
  rintro e w2 ⟨rfl, ht⟩
  have hO2 : OnlyIn [] w w2 := ((hO1.alloc _).alloc _).trans ht
  clear ht hO1
  go_wp2_with fail
  refine (gets_yes18 _ _ [0] (Rd.lit w2 (byteCells [0]) 5 1 rfl) (by decide) _ [] (Rd.nil _ _) 0 0 9 (by decide)).mono ?_
  rintro e w3 ⟨rfl, ht⟩
  have hO3 : OnlyIn [] w w3 := (hO2.alloc _).trans ht
  clear ht hO2
  go_wp2_with fail
  refine (opens_yes18 _ _ [0, 1, 48, 128] (Rd.lit w3 (byteCells [0, 1, 48, 128]) 5 4 rfl) (by decide) _ [] (Rd.nil _ _) 3 1 26 0 (by decide)).mono ?_
  rintro e w4 ⟨rfl, ht⟩
  have hO4 : OnlyIn [] w w4 := (hO3.alloc _).trans ht
  clear ht hO3
  go_wp2_with fail
  go_ret
  exact ⟨rfl, hO4⟩

set_option maxRecDepth 100000 in
set_option maxHeartbeats 4000000 in
theorem known_any18 (w : World) : Calls Try.prog 13 #[] w fun e w' => e = .returned (.bool true) ∧ OnlyIn [] w w' := by
  have hn : ∀ W, Rd W 1 (.slice none 0 0) ([] : List UInt8).length (byteCells []) := fun W => Rd.nil W 1
  have p0 := gPut_any w 0 _ [] (hn _) (by decide)
  rw [show headOf 0 [] = ([], 2) from by decide] at p0
  have p1 := gPut_any w 32 _ [] (hn _) (by decide)
  rw [show headOf 32 [] = ([], 2) from by decide] at p1
  have s0 := gStart_any w 0
  rw [show beginOf 0 = ([48, 48, 48, 48, 48, 48, 48, 48, 48, 48, 48, 48, 48, 48, 48, 49, 48, 48, 48, 48], 0) from by decide] at s0
  have s1 := gStart_any w 16
  rw [show beginOf 16 = ([], 3) from by decide] at s1
  have w0 := gWhole_any w 3 1 _ [] (hn _) (by decide)
  rw [show wholeOf 3 1 [] = ([48, 48, 48, 48, 48, 48, 48, 48, 48, 48, 48, 48, 48, 48, 48, 49, 48, 48, 49, 49, 48, 48, 48, 48, 49, 48], 0) from by decide] at w0
  have w1 := gWhole_any w 0 1 _ [] (hn _) (by decide)
  rw [show wholeOf 0 1 [] = ([], 3) from by decide] at w1
  obtain ⟨t0, ht0⟩ : ∃ t, str [48, 48, 48, 48, 48, 48, 48, 48, 48, 48, 48, 48, 48, 48, 48, 49, 48, 48, 48, 48] = t := ⟨_, rfl⟩
  obtain ⟨t1, ht1⟩ : ∃ t, str [48, 48, 48, 48, 48, 48, 48, 48, 48, 48, 48, 48, 48, 48, 48, 49, 48, 48, 49, 49, 48, 48, 48, 48, 49, 48] = t := ⟨_, rfl⟩
  have b0 : t0.toList = [48, 48, 48, 48, 48, 48, 48, 48, 48, 48, 48, 48, 48, 48, 48, 49, 48, 48, 48, 48] := by rw [← ht0, ByteArray.toList_eq, str_toList]
  have b1 : t1.toList = [48, 48, 48, 48, 48, 48, 48, 48, 48, 48, 48, 48, 48, 48, 48, 49, 48, 48, 49, 49, 48, 48, 48, 48, 49, 48] := by rw [← ht1, ByteArray.toList_eq, str_toList]
  unfold TextErr at p0 p1 s0 s1 w0 w1
  simp only [ht0] at s0
  simp only [ht1] at w0
  clear ht0 ht1
  go_enter Try.func13, Try.ntmps13
  go_wp2_with fail
  refine p0.mono ?_
  rintro e w' ⟨rfl, rfl⟩
  go_wp2_with fail
  refine p1.mono ?_
  rintro e w' ⟨rfl, rfl⟩
  go_wp2_with fail
  refine s0.mono ?_
  rintro e w' ⟨rfl, rfl⟩
  go_wp2_with fail
  refine s1.mono ?_
  rintro e w' ⟨rfl, rfl⟩
  go_wp2_with fail
  refine w0.mono ?_
  rintro e w' ⟨rfl, rfl⟩
  go_wp2_with fail
  refine w1.mono ?_
  rintro e w' ⟨rfl, rfl⟩
  clear p0 p1 s0 s1 w0 w1
  go_wp2_with fail
  have g0 := gGet_any _ _ [8] (Rd.lit w (byteCells [8]) 5 1 rfl) (by decide) (-1) (by decide)
  rw [show getAll [8] (-1) = (0, [], 0, 3) from by decide] at g0
  refine g0.mono ?_
  rintro e w2 ⟨u2, rfl, -, ht⟩
  have hO2 : OnlyIn [] w w2 := ((OnlyIn.refl _ _).alloc _).trans ht
  clear g0 ht
  go_wp2_with fail
  refine (puts_yes18 _ [48, 48, 48, 48, 49, 48] 1 _ [] (hn _) (by decide) (by decide)).mono ?_
  rintro e w3 ⟨rfl, ht⟩
  have hO3 := hO2.trans ht
  clear ht hO2
  go_wp2_with fail
  refine (gets_yes18 _ _ [8] (Rd.lit w3 (byteCells [8]) 5 1 rfl) (by decide) _ [] (hn _) 1 6 0 (by decide)).mono ?_
  rintro e w4 ⟨rfl, ht⟩
  have hO4 : OnlyIn [] w w4 := (hO3.alloc _).trans ht
  clear ht hO3
  go_wp2_with fail
  refine (gets_yes18 _ _ [12] (Rd.lit w4 (byteCells [12]) 5 1 rfl) (by decide) _ [] (hn _) 0 0 5 (by decide)).mono ?_
  rintro e w5 ⟨rfl, ht⟩
  have hO5 : OnlyIn [] w w5 := (hO4.alloc _).trans ht
  clear ht hO4
  go_wp2_with fail
  refine (awake_any18 _).mono ?_
  rintro e w6 ⟨rfl, ht⟩
  have hO6 := hO5.trans ht
  clear ht hO5
  go_wp2_with fail
  refine (opens_yes18 _ _ [0, 0, 1, 48, 128] (Rd.lit w6 (byteCells [0, 0, 1, 48, 128]) 5 5 rfl) (by decide) _ [] (hn _) 3 1 34 0 (by decide)).mono ?_
  rintro e w7 ⟨rfl, ht⟩
  have hO7 : OnlyIn [] w w7 := (hO6.alloc _).trans ht
  clear ht hO6
  go_wp2_with fail
  refine (opens_yes18 _ _ [0, 1, 8, 0] (Rd.lit w7 (byteCells [0, 1, 8, 0]) 5 4 rfl) (by decide) _ [] (hn _) 0 0 0 2 (by decide)).mono ?_
  rintro e w8 ⟨rfl, ht⟩
  have hO8 : OnlyIn [] w w8 := (hO7.alloc _).trans ht
  clear ht hO7
  go_wp2_with fail
  go_ret
  exact ⟨rfl, hO8⟩
end Go.Proofs.Ytejomjkkjcnfnaa
