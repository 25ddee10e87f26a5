/-
  Law 03: the chapter's examples.
-/
import Derived.Test.YtboipjdgccbjmaaLaw03
namespace Go.Proofs.Ytboipjdgccbjmaa
open Go.RowKit Go.Mine

set_option maxRecDepth 100000 in
theorem gets_yes (w : World) {base b mb n m : Nat} {tv : Value} {t : List TNode} {f : Int → Option ByteArray} (h : Tr w base b tv mb n t f m) (hm : 0 < m) (v : Value) (bs : List UInt8) (hr : Rd w 1 v bs.length (byteCells bs)) (hl : bs.length ≤ 1000000000) (i : Int) (hi : i ≤ 9223372036854775807) (want size err : Int) (hy : getTree t bs i = (want, size, err)) :
    Calls Try.prog 48 #[.pointer (some ⟨b, 0, none⟩), v, .int .i64 i, .int .i64 want, .int .i64 size, .int .i64 err] w fun e w' => e = .returned (.bool true) ∧ OnlyIn [] w w' := by
  have := gets_any w h hm v bs hr hl i hi want size err
  rwa [decide_eq_true hy] at this
set_option maxRecDepth 100000 in
theorem puts_yes (w : World) {base b mb n m : Nat} {tv : Value} {t : List TNode} {f : Int → Option ByteArray} (h : Tr w base b tv mb n t f m) (hm : 0 < m) (x : Int) (hx : -9223372036854775808 ≤ x ∧ x ≤ 9223372036854775807) (want : List UInt8) (err : Int) (hy : putOf f x = (str want, err)) :
    Calls Try.prog 49 #[.pointer (some ⟨b, 0, none⟩), .int .i64 x, .string (str want), .int .i64 err] w fun e w' => e = .returned (.bool true) ∧ OnlyIn [] w w' := by
  have := puts_any w h hm x hx want err
  rwa [decide_eq_true hy] at this

set_option maxRecDepth 100000 in
theorem refuses_any (w : World) (cv nv : Value) (cs : List (List UInt8)) (ns : List Int) (hc : Rd w 1 cv cs.length (txtCells cs)) (hn : Rd w 1 nv ns.length (intCells ns)) (hs : ∀ s ∈ cs, s.length ≤ 9223372036854775807) (hcl : cs.length ≤ 9223372036854775807) (hnl : ns.length ≤ 9223372036854775807)
    (hb : ∀ z ∈ ns, -9223372036854775808 ≤ z ∧ z ≤ 9223372036854775807) (k : Int)
    (hk : ((cs.length ≠ ns.length ∨ cs.length = 0 ∨ 300 < cs.length ∨ cs.all codeB = false) ∧ k = 2) ∨ ((cs.length = ns.length ∧ 0 < cs.length ∧ cs.length ≤ 300 ∧ cs.all codeB = true) ∧ build [TNode.mt] (kvOf (cs.zip ns)) = none ∧ k = 14)) :
    Calls Try.prog 50 #[.int .i64 k, nv, cv] w fun e w' => e = .returned (.bool true) ∧ OnlyIn [] w w' := by
  have hmk := Make_any w cv nv cs ns hc hn hs hcl hnl hb
  have hmk2 := hmk.mono (R' := fun e w' => e = .returned (.tuple #[.pointer none, .int .i64 k]) ∧ OnlyIn [] w w') (fun e w' h => by
    obtain ⟨ho, h⟩ := h
    rcases hk with ⟨hbad, rfl⟩ | ⟨hgood, hno, rfl⟩
    · rcases h with ⟨-, he⟩ | ⟨⟨g1, g2, g3, g4⟩, -⟩
      · exact ⟨he, ho⟩
      · exfalso
        rcases hbad with hbad | hbad | hbad | hbad
        · exact hbad g1
        · omega
        · omega
        · rw [g4] at hbad; cases hbad
    · rcases h with ⟨hbad, -⟩ | ⟨-, ⟨-, he⟩ | ⟨t, b, v, mb, hs, -⟩⟩
      · exfalso
        obtain ⟨g1, g2, g3, g4⟩ := hgood
        rcases hbad with hbad | hbad | hbad | hbad
        · exact hbad g1
        · omega
        · omega
        · rw [g4] at hbad; cases hbad
      · exact ⟨he, ho⟩
      · rw [hno] at hs; cases hs)
  obtain ⟨A, c, rfl⟩ : ∃ A c, cv = .slice A cs.length c := by
    obtain ⟨-, A, c, rfl, -⟩ := hc
    exact ⟨A, c, rfl⟩
  obtain ⟨B, d, rfl⟩ : ∃ A c, nv = .slice A ns.length c := by
    obtain ⟨-, A, c, rfl, -⟩ := hn
    exact ⟨A, c, rfl⟩
  have hkk : (k == k) = true := by simp
  clear hmk hc hn hs hb hk
  go_enter Try.func50, Try.ntmps50
  go_wp2_with (go_at_call 38; refine hmk2.mono ?_; rintro e w1 ⟨rfl, ht1⟩)
  go_ret
  exact ⟨by simp, ht1⟩

set_option maxRecDepth 100000 in
theorem three_any (w : World) : Calls Try.prog 47 #[] w fun e w' => ∃ b v mb, e = .returned (.pointer (some ⟨b, 0, none⟩)) ∧ Tr w' w.heap.size b v mb 3 T3 (told (cs3.zip ns3)) 3 ∧ OnlyIn [] w w' := by
  go_enter Try.func47, Try.ntmps47
  go_wp2_with fail
  have hc : Rd ((w.alloc (.cells (txtCells cs3).toArray 9)).alloc (.cells (intCells ns3).toArray 3)) 1 (.slice (some ⟨w.heap.size, 0, none⟩) 3 3) cs3.length (txtCells cs3) := (Rd.lit w (txtCells cs3) 9 3 rfl).cells fun p u hp => ((OnlyIn.refl [] _).alloc _).cell hp (by simp)
  have hn : Rd ((w.alloc (.cells (txtCells cs3).toArray 9)).alloc (.cells (intCells ns3).toArray 3)) 1 (.slice (some ⟨w.heap.size + 1, 0, none⟩) 3 3) ns3.length (intCells ns3) := by
    have := Rd.lit (size := 1) (w.alloc (.cells (txtCells cs3).toArray 9)) (intCells ns3) 3 3 rfl
    rwa [World.size_alloc] at this
  refine (Make_any _ _ _ cs3 ns3 hc hn (by decide) (by decide) (by decide) (by decide)).mono ?_
  rintro e w1 ⟨ho, h⟩
  rcases h with ⟨hbad, -⟩ | ⟨-, ⟨hno, -⟩ | ⟨t, b, v, mb, hs, rfl, hT⟩⟩
  · exfalso
    rcases hbad with hbad | hbad | hbad | hbad
    · exact hbad (by decide)
    · exact absurd hbad (by decide)
    · exact absurd hbad (by decide)
    · exact absurd hbad (by decide)
  · rw [build3] at hno; cases hno
  · rw [build3] at hs
    injection hs with hs
    subst hs
    clear hc hn
    go_wp2_with fail
    go_ret
    exact ⟨b, v, mb, rfl, hT.lower (by simp; omega), ((((OnlyIn.refl [] w).alloc _).alloc _).then ho (by simp))⟩

set_option maxRecDepth 100000 in
set_option maxHeartbeats 4000000 in
theorem awake_any03 (w : World) : Calls Try.prog 36 #[] w fun e w' => e = .returned (.bool true) ∧ OnlyIn [] w w' := by
  go_enter Try.func36, Try.ntmps36
  go_wp2_with fail
  refine (three_any _).mono ?_
  rintro e w1 ⟨b, v, mb, rfl, hT1, hO1⟩
  go_wp2_with fail
  refine (gets_yes _ (hT1.alloc (.cells (byteCells [128]).toArray 5)) (by decide) _ [128] (Rd.lit w1 (byteCells [128]) 5 1 rfl) (by decide) (0) (by decide) 7 1 0 (by decide)).mono ?_
  rintro e w2 ⟨rfl, ht⟩
  have hT2 := (hT1.alloc (.cells (byteCells [128]).toArray 5)).only ht (by simp)
  have hO2 := (hO1.alloc (.cells (byteCells [128]).toArray 5)).then ht (by simp)
  clear ht hT1 hO1
  go_wp2_with fail
  refine (gets_yes _ (hT2.alloc (.cells (byteCells [64]).toArray 5)) (by decide) _ [64] (Rd.lit w2 (byteCells [64]) 5 1 rfl) (by decide) (0) (by decide) 8 2 0 (by decide)).mono ?_
  rintro e w3 ⟨rfl, ht⟩
  have hT3 := (hT2.alloc (.cells (byteCells [64]).toArray 5)).only ht (by simp)
  have hO3 := (hO2.alloc (.cells (byteCells [64]).toArray 5)).then ht (by simp)
  clear ht hT2 hO2
  go_wp2_with fail
  refine (puts_yes _ hT3 (by decide) (8) (by decide) [48, 49] 0 rfl).mono ?_
  rintro e w4 ⟨rfl, ht⟩
  have hT4 := hT3.only ht (by simp)
  have hO4 := hO3.then ht (by simp)
  clear ht hT3 hO3
  go_wp2_with fail
  go_ret
  exact ⟨rfl, hO4⟩

set_option maxRecDepth 100000 in
set_option maxHeartbeats 4000000 in
theorem known_any03 (w : World) : Calls Try.prog 10 #[] w fun e w' => e = .returned (.bool true) ∧ OnlyIn [] w w' := by
  go_enter Try.func10, Try.ntmps10
  go_wp2_with fail
  refine (three_any _).mono ?_
  rintro e w1 ⟨b, v, mb, rfl, hT1, hO1⟩
  go_wp2_with fail
  refine (gets_yes _ (hT1.alloc (.cells (byteCells [64]).toArray 5)) (by decide) _ [64] (Rd.lit w1 (byteCells [64]) 5 1 rfl) (by decide) (1) (by decide) 7 1 0 (by decide)).mono ?_
  rintro e w2 ⟨rfl, ht⟩
  have hT2 := (hT1.alloc (.cells (byteCells [64]).toArray 5)).only ht (by simp)
  have hO2 := (hO1.alloc (.cells (byteCells [64]).toArray 5)).then ht (by simp)
  clear ht hT1 hO1
  go_wp2_with fail
  refine (gets_yes _ (hT2.alloc (.cells (byteCells [0]).toArray 5)) (by decide) _ [0] (Rd.lit w2 (byteCells [0]) 5 1 rfl) (by decide) (0) (by decide) 0 0 7 (by decide)).mono ?_
  rintro e w3 ⟨rfl, ht⟩
  have hT3 := (hT2.alloc (.cells (byteCells [0]).toArray 5)).only ht (by simp)
  have hO3 := (hO2.alloc (.cells (byteCells [0]).toArray 5)).then ht (by simp)
  clear ht hT2 hO2
  go_wp2_with fail
  refine (gets_yes _ (hT3.alloc (.cells (byteCells [0]).toArray 5)) (by decide) _ [0] (Rd.lit w3 (byteCells [0]) 5 1 rfl) (by decide) (7) (by decide) 0 0 5 (by decide)).mono ?_
  rintro e w4 ⟨rfl, ht⟩
  have hT4 := (hT3.alloc (.cells (byteCells [0]).toArray 5)).only ht (by simp)
  have hO4 := (hO3.alloc (.cells (byteCells [0]).toArray 5)).then ht (by simp)
  clear ht hT3 hO3
  go_wp2_with fail
  refine (gets_yes _ hT4 (by decide) _ [] (Rd.nil _ 1) (by decide) (0) (by decide) 0 0 5 (by decide)).mono ?_
  rintro e w5 ⟨rfl, ht⟩
  have hT5 := hT4.only ht (by simp)
  have hO5 := hO4.then ht (by simp)
  clear ht hT4 hO4
  go_wp2_with fail
  refine (gets_yes _ (hT5.alloc (.cells (byteCells [1]).toArray 5)) (by decide) _ [1] (Rd.lit w5 (byteCells [1]) 5 1 rfl) (by decide) (-1) (by decide) 0 0 3 (by decide)).mono ?_
  rintro e w6 ⟨rfl, ht⟩
  have hT6 := (hT5.alloc (.cells (byteCells [1]).toArray 5)).only ht (by simp)
  have hO6 := (hO5.alloc (.cells (byteCells [1]).toArray 5)).then ht (by simp)
  clear ht hT5 hO5
  go_wp2_with fail
  refine (puts_yes _ hT6 (by decide) (7) (by decide) [49] 0 rfl).mono ?_
  rintro e w7 ⟨rfl, ht⟩
  have hT7 := hT6.only ht (by simp)
  have hO7 := hO6.then ht (by simp)
  clear ht hT6 hO6
  go_wp2_with fail
  refine (puts_yes _ hT7 (by decide) (9) (by decide) [] 18 rfl).mono ?_
  rintro e w8 ⟨rfl, ht⟩
  have hT8 := hT7.only ht (by simp)
  have hO8 := hO7.then ht (by simp)
  clear ht hT7 hO7
  go_wp2_with fail
  refine (TCodes_any _ hT8 (by decide)).mono ?_
  rintro e _ ⟨rfl, rfl⟩
  go_wp2_with fail
  refine (awake_any03 _).mono ?_
  rintro e w9 ⟨rfl, ht⟩
  have hO9 := hO8.then ht (by simp)
  clear ht hT8 hO8
  go_wp2_with fail
  refine (refuses_any _ _ _ [[49], [49, 48]] [1, 2] (by have := Rd.lit (size := 1) (w9.alloc (.cells (intCells [1, 2]).toArray 3)) (txtCells [[49], [49, 48]]) 9 2 rfl; rwa [World.size_alloc] at this) ((Rd.lit w9 (intCells [1, 2]) 3 2 rfl).cells fun p u hp => ((OnlyIn.refl [] _).alloc _).cell hp (by simp)) (by decide) (by decide) (by decide) (by decide) 14 (by decide)).mono ?_
  rintro e w10 ⟨rfl, ht⟩
  have hO10 := ((hO9.alloc (.cells (intCells [1, 2]).toArray 3)).alloc (.cells (txtCells [[49], [49, 48]]).toArray 9)).then ht (by simp)
  clear ht hO9
  go_wp2_with fail
  refine (refuses_any _ _ _ [[49], [49]] [1, 2] (by have := Rd.lit (size := 1) (w10.alloc (.cells (intCells [1, 2]).toArray 3)) (txtCells [[49], [49]]) 9 2 rfl; rwa [World.size_alloc] at this) ((Rd.lit w10 (intCells [1, 2]) 3 2 rfl).cells fun p u hp => ((OnlyIn.refl [] _).alloc _).cell hp (by simp)) (by decide) (by decide) (by decide) (by decide) 14 (by decide)).mono ?_
  rintro e w11 ⟨rfl, ht⟩
  have hO11 := ((hO10.alloc (.cells (intCells [1, 2]).toArray 3)).alloc (.cells (txtCells [[49], [49]]).toArray 9)).then ht (by simp)
  clear ht hO10
  go_wp2_with fail
  refine (refuses_any _ _ _ [[50]] [1] (by have := Rd.lit (size := 1) (w11.alloc (.cells (intCells [1]).toArray 3)) (txtCells [[50]]) 9 1 rfl; rwa [World.size_alloc] at this) ((Rd.lit w11 (intCells [1]) 3 1 rfl).cells fun p u hp => ((OnlyIn.refl [] _).alloc _).cell hp (by simp)) (by decide) (by decide) (by decide) (by decide) 2 (by decide)).mono ?_
  rintro e w12 ⟨rfl, ht⟩
  have hO12 := ((hO11.alloc (.cells (intCells [1]).toArray 3)).alloc (.cells (txtCells [[50]]).toArray 9)).then ht (by simp)
  clear ht hO11
  go_wp2_with fail
  refine (refuses_any _ _ _ [[49]] [1, 2] (by have := Rd.lit (size := 1) (w12.alloc (.cells (intCells [1, 2]).toArray 3)) (txtCells [[49]]) 9 1 rfl; rwa [World.size_alloc] at this) ((Rd.lit w12 (intCells [1, 2]) 3 2 rfl).cells fun p u hp => ((OnlyIn.refl [] _).alloc _).cell hp (by simp)) (by decide) (by decide) (by decide) (by decide) 2 (by decide)).mono ?_
  rintro e w13 ⟨rfl, ht⟩
  have hO13 := ((hO12.alloc (.cells (intCells [1, 2]).toArray 3)).alloc (.cells (txtCells [[49]]).toArray 9)).then ht (by simp)
  clear ht hO12
  go_wp2_with fail
  refine (refuses_any _ _ _ [] [] (Rd.nil _ 1) (Rd.nil _ 1) (by decide) (by decide) (by decide) (by decide) 2 (by decide)).mono ?_
  rintro e w14 ⟨rfl, ht⟩
  have hO14 := hO13.then ht (by simp)
  clear ht hO13
  go_wp2_with fail
  go_ret
  exact ⟨rfl, hO14⟩

end Go.Proofs.Ytboipjdgccbjmaa
