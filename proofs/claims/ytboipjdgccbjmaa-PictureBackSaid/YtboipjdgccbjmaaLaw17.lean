/-
  Law 17: SameHead, puts, gets, awake, PictureKnown.
-/
import Derived.Test.YtboipjdgccbjmaaPicGet2
import Derived.Test.YtboipjdgccbjmaaPicPut
namespace Go.Mine
theorem Rd.lit2 {size : Nat} (w : World) (o : Obj) (cs : List Value) (t : TypeId) (m : Nat) (hl : cs.length = m * size) : Rd ((w.alloc o).alloc (.cells cs.toArray t)) size (.slice (some ⟨w.heap.size + 1, 0, none⟩) m m) m cs := by
  have := Rd.lit (size := size) (w.alloc o) cs t m hl
  have e : (w.alloc o).heap.size = w.heap.size + 1 := by simp
  rwa [e] at this
theorem Rd.alloc {w : World} {size n : Nat} {v : Value} {xs : List Value} (h : Rd w size v n xs) (o : Obj) : Rd (w.alloc o) size v n xs := h.cells fun _ _ hp => ((OnlyIn.refl [] w).alloc o).cell hp (by simp)
end Go.Mine
namespace Go.Proofs.Ytboipjdgccbjmaa
open Go.RowKit Go.Mine

set_option maxRecDepth 100000 in
theorem SameHead_yes (w : World) (t y : Int) (v u : Value) (l : List UInt8) (hv : Rd w 1 v l.length (byteCells l)) (hu : Rd w 1 u l.length (byteCells l)) :
    Calls Try.prog 24 #[.agg #[.int .i64 t, .int .i64 y, v], .agg #[.int .i64 t, .int .i64 y, u]] w fun e w' => e = .returned (.bool true) ∧ OnlyIn [] w w' := by
  have hv' := hv
  have hu' := hu
  obtain ⟨-, A, c, rfl, hc, -⟩ := hv'
  obtain ⟨-, B, d, rfl, hd, -⟩ := hu'
  have HH := Lib.hid (And.intro hv hu)
  clear hv hu
  go_enter Try.func24, Try.ntmps24
  go_wp2_with fail
  generalize hw2 : World.alloc _ _ = w2
  obtain ⟨hO, hsz⟩ := (Keep.start [] w).more2 hw2
  have hs := (SameBytes_any w2 (.slice A l.length c) (.slice B l.length d) l l (HH.out.1.cells fun p u hp => hO.only.cell hp (by simp)) (HH.out.2.cells fun p u hp => hO.only.cell hp (by simp)))
  rw [decide_eq_true rfl] at hs
  clear hw2
  refine hs.mono ?_
  rintro e w3 ⟨rfl, rfl⟩
  clear hs
  go_wp2_with fail
  go_ret
  exact ⟨rfl, hO.only⟩

set_option maxRecDepth 100000 in
theorem puts17_yes (w : World) (t y : Int) (v : Value) (s want : List UInt8) (er : Int) (hr : Rd w 1 v s.length (byteCells s)) (h : putOf t y s = (want, er)) :
    Calls Try.prog 26 #[.agg #[.int .i64 t, .int .i64 y, v], .string (str want), .int .i64 er] w fun e w' => e = .returned (.bool true) ∧ OnlyIn [] w w' := by
  have hp := fun W h => pPut_any W t y v s h
  rw [h] at hp
  unfold TxtErr at hp
  simp only at hp
  obtain ⟨tw, htw⟩ : ∃ x, str want = x := ⟨_, rfl⟩
  rw [htw] at hp ⊢
  have hr' := hr
  obtain ⟨-, A, c, rfl, hc, -⟩ := hr'
  have HR := Lib.hid hr
  clear hr htw h
  go_enter Try.func26, Try.ntmps26
  go_wp2_with fail
  refine (hp _ (HR.out.cells fun p u hp => ((OnlyIn.refl [] w).alloc _).cell hp (by simp))).mono ?_
  rintro e w1 ⟨rfl, t1⟩
  have o1 := ((OnlyIn.refl [] w).alloc _).trans t1
  clear hp t1
  go_wp2_with fail
  go_ret
  exact ⟨rfl, o1⟩

set_option maxRecDepth 100000 in
theorem gets17_yes (w : World) (b : Value) (bs : List UInt8) (hr : Rd w 1 b bs.length (byteCells bs)) (hl : bs.length ≤ 1000000000) (i : Int) (hi : i ≤ 9223372036854775807) (t y : Int) (u : Value) (l : List UInt8) (hu : Rd w 1 u l.length (byteCells l)) (n er : Int) (h : ((picAll bs i).1 : Int) = t ∧ ((picAll bs i).2.1 : Int) = y ∧ (picAll bs i).2.2.1 = l ∧ ((picAll bs i).2.2.2.1 : Int) = n ∧ (picAll bs i).2.2.2.2 = er) :
    Calls Try.prog 27 #[b, .int .i64 i, .agg #[.int .i64 t, .int .i64 y, u], .int .i64 n, .int .i64 er] w fun e w' => e = .returned (.bool true) ∧ OnlyIn [] w w' := by
  have hp := fun W h => pGet_any W b bs h hl i hi
  obtain ⟨rfl, rfl, rfl, rfl, rfl⟩ := h
  obtain ⟨⟨t, y, l, n, er⟩, hG⟩ : ∃ G, picAll bs i = G := ⟨_, rfl⟩
  rw [hG] at hp hu ⊢
  unfold PicEnd at hp
  simp only at hp hu ⊢
  have hu' := hu
  obtain ⟨-, A, c, rfl, hc, -⟩ := hu'
  have HR := Lib.hid (And.intro hr hu)
  clear hr hu hG
  go_enter Try.func27, Try.ntmps27
  go_wp2_with fail
  have o0 := (OnlyIn.refl [] w).alloc (.cells #[.int .i64 (t : Int), .int .i64 (y : Int), .slice A l.length c] 24)
  have hB := Blk.new w 24 [.int .i64 (t : Int), .int .i64 (y : Int), .slice A l.length c]
  refine (hp _ (HR.out.1.cells fun p u hp => o0.cell hp (by simp))).mono ?_
  rintro e w1 ⟨v, rfl, hs1, t1⟩
  have hB1 := hB.only t1 (by simp)
  have k0 := hB1.cell (i := 0) rfl
  have k1 := hB1.cell (i := 1) rfl
  have k2 := hB1.cell (i := 2) rfl
  have o1 := o0.trans t1
  clear hp t1 o0 hB
  obtain ⟨Av, cv, rfl, hcv⟩ := hs1.val
  have hlt := hB1.lt
  generalize w.heap.size = g at hB1 k0 k1 k2 hlt
  have hne : ¬ g = w1.heap.size := by omega
  go_wp2_with fail
  have o2 : OnlyIn [] w (w1.alloc (.cells #[.int .i64 (t : Int), .int .i64 (y : Int), .slice Av l.length cv] 24)) := o1.alloc _
  refine (SameHead_yes _ _ _ _ _ l (Rd.of_sl (hs1.alloc _)) (HR.out.2.cells fun p u hp => o2.cell hp (by simp))).mono ?_
  rintro e w3 ⟨rfl, t3⟩
  have o3 := o2.trans t3
  clear o1 o2 t3 hs1 k0 k1 k2 hB1
  go_wp2_with fail
  go_ret
  exact ⟨rfl, o3⟩

set_option maxRecDepth 100000 in
set_option maxHeartbeats 1000000 in
theorem awake_any17 (w : World) : Calls Try.prog 13 #[] w fun e w' => e = .returned (.bool true) ∧ OnlyIn [] w w' := by
  have hf := fun W => pFormat_any W 3 4 (.slice none 0 0)
  rw [show formatOf 4 = 1 from by decide] at hf
  go_enter Try.func13, Try.ntmps13
  go_wp2_with fail
  generalize hw1 : World.alloc _ _ = w1
  obtain ⟨hO, hsz⟩ := (Keep.start [] w).more1 hw1
  clear hw1 hsz
  refine (puts17_yes _ 3 4 (.slice none 0 0) [] [48, 48, 48, 49, 49, 48, 48, 48, 49, 48, 48, 48] 0 (Rd.nil _ _) (by decide)).mono ?_
  rintro e w2 ⟨rfl, t2⟩
  have hO2 := hO.only0 t2
  have k0 := hO2.cell 0 0 rfl rfl
  have k1 := hO2.cell 0 1 rfl rfl
  have k2 := hO2.cell 0 2 rfl rfl
  clear hO t2
  go_wp2_with fail
  refine (hf _).mono ?_
  rintro e w3 ⟨rfl, t3⟩
  have hO3 := hO2.only0 t3
  have k0 := hO3.cell 0 0 rfl rfl
  have k1 := hO3.cell 0 1 rfl rfl
  have k2 := hO3.cell 0 2 rfl rfl
  have hlt := hO3.lt (n := 0) rfl
  have hne : ¬ w.heap.size = w3.heap.size := by omega
  clear hO2 t3
  go_wp2_with fail
  refine (gets17_yes _ _ [24, 128] (Rd.lit w3 (byteCells [24, 128]) 5 2 rfl) (by decide) 0 (by decide) 3 4 (.slice none 0 0) [] (Rd.nil _ _) 12 0 (by decide)).mono ?_
  rintro e w4 ⟨rfl, t4⟩
  have o4 := (hO3.only.alloc (.cells (byteCells [24, 128]).toArray 5)).trans t4
  clear hO3 t4 k0 k1 k2
  go_wp2_with fail
  go_ret
  exact ⟨rfl, o4⟩

set_option maxRecDepth 100000 in
set_option maxHeartbeats 2000000 in
theorem known_any17 (w : World) : Calls Try.prog 5 #[] w fun e w' => e = .returned (.bool true) ∧ OnlyIn [] w w' := by
  have hf := fun W => pFormat_any W 0 3 (.slice none 0 0)
  rw [show formatOf 3 = 0 from by decide] at hf
  go_enter Try.func5, Try.ntmps5
  go_wp2_with fail
  refine (hf _).mono ?_
  rintro e w1 ⟨rfl, t1⟩
  go_wp2_with fail
  refine (puts17_yes _ 32 0 (.slice none 0 0) [] [] 2 (Rd.nil _ _) (by decide)).mono ?_
  rintro e w2 ⟨rfl, t2⟩
  have o2 := t1.trans t2
  clear t1 t2
  go_wp2_with fail
  refine (puts17_yes _ 0 0 _ [165] [48, 48, 48, 48, 48, 48, 48, 48, 48, 48, 48, 49, 49, 48, 49, 48, 48, 49, 48, 49, 48] 0 (Rd.lit w2 (byteCells [165]) 5 1 rfl) (by decide)).mono ?_
  rintro e w3 ⟨rfl, t3⟩
  have o3 := (o2.alloc (.cells (byteCells [165]).toArray 5)).trans t3
  clear o2 t3
  go_wp2_with fail
  refine (awake_any17 _).mono ?_
  rintro e w4 ⟨rfl, t4⟩
  have o4 := o3.trans t4
  clear o3 t4
  go_wp2_with fail
  refine (gets17_yes _ _ [24] (Rd.lit w4 (byteCells [24]) 5 1 rfl) (by decide) 0 (by decide) 0 0 (.slice none 0 0) [] (Rd.nil _ _) 0 5 (by decide)).mono ?_
  rintro e w5 ⟨rfl, t5⟩
  have o5 := (o4.alloc (.cells (byteCells [24]).toArray 5)).trans t5
  clear o4 t5
  go_wp2_with fail
  refine (gets17_yes _ _ [24, 128] (Rd.lit w5 (byteCells [24, 128]) 5 2 rfl) (by decide) (-1) (by decide) 0 0 (.slice none 0 0) [] (Rd.nil _ _) 0 3 (by decide)).mono ?_
  rintro e w6 ⟨rfl, t6⟩
  have o6 := (o5.alloc (.cells (byteCells [24, 128]).toArray 5)).trans t6
  clear o5 t6
  go_wp2_with fail
  go_ret
  exact ⟨rfl, o6⟩
end Go.Proofs.Ytboipjdgccbjmaa
