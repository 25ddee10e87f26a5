/-
  Law 07: gets, puts, awake; PatternKnown, PatternReads, PatternTells: the walks.
-/
import Derived.Test.YteblkjmeaojegaaDoorPat
import Derived.Test.YteblkjmeaojegaaDoorKitKept
import Derived.Test.YteblkjmeaojegaaDoorKit
namespace Go.Proofs.YteblkjmeaojegaaDoor
open Go.RowKit Go.Mine

set_option maxRecDepth 100000 in
theorem gets07_yes (w : World) (hsp : Spaced w) (v : Value) (bs : List UInt8) (hr : Rd w 1 v bs.length (byteCells bs)) (hl : bs.length ≤ 1000000000) (want size err : Int) (hy : getT PT bs 0 = (want, size, err)) :
    Calls Tryd.prog 20 #[.int .i64 want, .int .i64 size, .int .i64 err, v] w fun e w' => e = .returned (.bool true) ∧ OnlyIn [] w w' := by
  have hg := pGet_any w hsp v bs hr hl 0 (by omega)
  rw [hy] at hg
  simp only at hg
  obtain ⟨A, c, rfl⟩ : ∃ A c, v = .slice A bs.length c := by
    obtain ⟨-, A, c, rfl, -⟩ := hr
    exact ⟨A, c, rfl⟩
  have b1 : (want == want) = true := by simp
  have b2 : (size == size) = true := by simp
  have b3 : (err == err) = true := by simp
  clear hy hr
  go_enter Tryd.func20, Tryd.ntmps20
  go_wp2_with (go_at_call 11; refine hg.mono ?_; rintro e w1 ⟨rfl, ht1⟩)
  go_ret
  exact ⟨by simp, ht1⟩

set_option maxRecDepth 100000 in
theorem puts07_yes (w : World) (hsp : Spaced w) (x : Int) (hx : -9223372036854775808 ≤ x ∧ x ≤ 9223372036854775807) (want : List UInt8) (err : Int) (hy : putOf (told pz) x = (str want, err)) :
    Calls Tryd.prog 21 #[.int .i64 x, .string (str want), .int .i64 err] w fun e w' => e = .returned (.bool true) ∧ OnlyIn [] w w' := by
  have hg := pPut_any w hsp x hx
  rw [hy] at hg
  simp only at hg
  have hbq := str_beq want want
  rw [decide_eq_true rfl] at hbq
  have b3 : (err == err) = true := by simp
  clear hy
  go_enter Tryd.func21, Tryd.ntmps21
  go_wp2_with (go_at_call 14; refine hg.mono ?_; rintro e w1 ⟨rfl, ht1⟩)
  go_ret
  exact ⟨by simp, ht1⟩

set_option maxRecDepth 100000 in
set_option maxHeartbeats 4000000 in
theorem awake07 (w : World) (hsp : Spaced w) : Calls Tryd.prog 9 #[] w fun e w' => e = .returned (.bool true) ∧ OnlyIn [] w w' := by
  go_enter Tryd.func9, Tryd.ntmps9
  go_wp2_with fail
  refine (gets07_yes _ (hsp.only ((OnlyIn.refl _ _).alloc _)) _ [224] (Rd.lit w (byteCells [224]) 5 1 rfl) (by decide) 60 3 0 (by decide +kernel)).mono ?_
  rintro e w1 ⟨rfl, ht1⟩
  have o1 := ((OnlyIn.refl [] w).alloc (.cells (byteCells [224]).toArray 5)).trans ht1
  clear ht1
  go_wp2_with fail
  refine (puts07_yes _ (hsp.only o1) 1 (by decide) [48, 49, 48, 49, 49] 0 (by decide +kernel)).mono ?_
  rintro e w3 ⟨rfl, ht3⟩
  have o3 := o1.trans ht3
  clear ht3 o1
  go_wp2_with fail
  refine (pHas_any _ 32 1).mono ?_
  rintro e w4 ⟨rfl, ht4⟩
  rw [show hasF 32 1 = true by decide +kernel]
  have o4 := o3.trans ht4
  clear ht4 o3
  go_wp2_with fail
  refine (pCount_any _ 60).mono ?_
  rintro e w5 ⟨rfl, ht5⟩
  rw [show ((cntTo 60 6 : Nat) : Int) = 4 by decide +kernel]
  have o5 := o4.trans ht5
  clear ht5 o4
  go_wp2_with fail
  go_ret
  exact ⟨rfl, o5⟩

set_option maxRecDepth 100000 in
set_option maxHeartbeats 4000000 in
theorem known07 {w : World} (hsp : Spaced w) : Calls Tryd.prog 5 #[] w fun e w' => e = .returned (.bool true) ∧ OnlyIn [] w w' := by
  go_enter Tryd.func5, Tryd.ntmps5
  go_wp2_with fail
  refine (gets07_yes _ (hsp.only ((OnlyIn.refl _ _).alloc _)) _ [1, 0] (Rd.lit w (byteCells [1, 0]) 5 2 rfl) (by decide) 39 9 0 (by decide +kernel)).mono ?_
  rintro e w2 ⟨rfl, ht2⟩
  have o2 := ((OnlyIn.refl [] w).alloc (.cells (byteCells [1, 0]).toArray 5)).trans ht2
  clear ht2
  go_wp2_with fail
  refine (gets07_yes _ ((hsp.only o2).only ((OnlyIn.refl _ _).alloc _)) _ [0, 0] (Rd.lit w2 (byteCells [0, 0]) 5 2 rfl) (by decide) 0 0 7 (by decide +kernel)).mono ?_
  rintro e w3 ⟨rfl, ht3⟩
  have o3 := (o2.alloc (.cells (byteCells [0, 0]).toArray 5)).trans ht3
  clear ht3 o2
  go_wp2_with fail
  refine (gets07_yes _ ((hsp.only o3).only ((OnlyIn.refl _ _).alloc _)) _ [1] (Rd.lit w3 (byteCells [1]) 5 1 rfl) (by decide) 0 0 5 (by decide +kernel)).mono ?_
  rintro e w4 ⟨rfl, ht4⟩
  have o4 := (o3.alloc (.cells (byteCells [1]).toArray 5)).trans ht4
  clear ht4 o3
  go_wp2_with fail
  refine (puts07_yes _ (hsp.only o4) 63 (by decide) [48, 48, 49, 49, 48, 48] 0 (by decide +kernel)).mono ?_
  rintro e w5 ⟨rfl, ht5⟩
  have o5 := o4.trans ht5
  clear ht5 o4
  go_wp2_with fail
  refine (puts07_yes _ (hsp.only o5) 0 (by decide) [] 18 (by decide +kernel)).mono ?_
  rintro e w6 ⟨rfl, ht6⟩
  have o6 := o5.trans ht6
  clear ht6 o5
  go_wp2_with fail
  refine (puts07_yes _ (hsp.only o6) 64 (by decide) [] 18 (by decide +kernel)).mono ?_
  rintro e w7 ⟨rfl, ht7⟩
  have o7 := o6.trans ht7
  clear ht7 o6
  go_wp2_with fail
  refine (awake07 _ (hsp.only o7)).mono ?_
  rintro e w8 ⟨rfl, ht8⟩
  have o8 := o7.trans ht8
  clear ht8 o7
  go_wp2_with fail
  refine (pHas_any _ 32 2).mono ?_
  rintro e w9 ⟨rfl, ht9⟩
  rw [show hasF 32 2 = false by decide +kernel]
  have o9 := o8.trans ht9
  clear ht9 o8
  go_wp2_with fail
  refine (pHas_any _ 1 6).mono ?_
  rintro e w10 ⟨rfl, ht10⟩
  rw [show hasF 1 6 = true by decide +kernel]
  have o10 := o9.trans ht10
  clear ht10 o9
  go_wp2_with fail
  refine (pHas_any _ 63 7).mono ?_
  rintro e w11 ⟨rfl, ht11⟩
  rw [show hasF 63 7 = false by decide +kernel]
  have o11 := o10.trans ht11
  clear ht11 o10
  go_wp2_with fail
  refine (pHas_any _ 64 1).mono ?_
  rintro e w12 ⟨rfl, ht12⟩
  rw [show hasF 64 1 = false by decide +kernel]
  have o12 := o11.trans ht12
  clear ht12 o11
  go_wp2_with fail
  refine (pCount_any _ 0).mono ?_
  rintro e w13 ⟨rfl, ht13⟩
  rw [show ((cntTo 0 6 : Nat) : Int) = 0 by decide +kernel]
  have o13 := o12.trans ht13
  clear ht13 o12
  go_wp2_with fail
  go_ret
  exact ⟨rfl, o13⟩

set_option maxRecDepth 100000 in
set_option maxHeartbeats 2000000 in
theorem PatternReads_walk {w : World} (hsp : Spaced w) (z : Value × List UInt8) (hzz : Rd w 1 z.1 z.2.length (byteCells z.2) ∧ z.2.length ≤ maxLen) (i : Int) (hi : -9223372036854775808 ≤ i ∧ i ≤ 9223372036854775807) :
    Calls Tryd.prog 3 #[z.1, .int .i64 i] w fun e w' => e = .returned (.bool true) ∧ OnlyIn [] w w' := by
  obtain ⟨bv, bs⟩ := z
  obtain ⟨hrb, hbl⟩ := hzz
  simp only at hrb hbl ⊢
  simp only [maxLen] at hbl
  obtain ⟨E, f, rfl, hff⟩ : ∃ A c, bv = .slice A bs.length c ∧ bs.length ≤ c := by
    obtain ⟨-, A, c, h1, h2, -⟩ := hrb; exact ⟨A, c, h1, h2⟩
  have haw := fun w1 (ho : OnlyIn [] w w1) => awake07 w1 (hsp.only ho)
  by_cases h100 : 60 < bs.length
  · have hd : decide ((60 : Int) < (bs.length : Int)) = true := by simp; omega
    clear hrb
    go_enter Tryd.func3, Tryd.ntmps3
    go_wp2_with (go_at_call 9; refine (haw _ (OnlyIn.refl _ _)).mono ?_; rintro e w2 ⟨rfl, ht⟩)
    go_ret
    exact ⟨rfl, ht⟩
  have hd : decide ((60 : Int) < (bs.length : Int)) = false := by simp; omega
  have hln := LentBytes_any w _ bs hrb (by omega)
  have hg1 := fun w1 {u} (hL : Lent w1 w.heap.size 5 u bs) (ho : OnlyIn [] w w1) => pGet_any w1 (hsp.only ho) u bs hL.rd (by omega) i hi.2
  have hg2 := fun w1 (ho : OnlyIn [] w w1) => rpGet_any w1 _ bs (hrb.cells fun p u hp => ho.cell hp (by simp)) (by omega) i hi.2
  have hkp := fun w1 {u} (hL : Lent w1 w.heap.size 5 u bs) (ho : OnlyIn [] w w1) => KeptBytes_any w1 u _ _ bs hL (hrb.cells fun p u hp => ho.cell hp (by simp)) (by omega)
  obtain ⟨⟨x, m, er⟩, hx⟩ : ∃ x, getT PT bs i = x := ⟨_, rfl⟩
  rw [hx] at hg1 hg2
  simp only at hg1 hg2
  have bx : (x == x) = true := by simp
  have bm : (m == m) = true := by simp
  have be : (er == er) = true := by simp
  obtain ⟨NB, hNB⟩ : ∃ NB, bs.length = NB := ⟨_, rfl⟩
  rw [hNB] at hff h100 hd hln hg2 hkp ⊢
  have HN := Lib.hid (And.intro hNB hx)
  clear hx hrb hbl hNB
  go_enter Tryd.func3, Tryd.ntmps3
  go_wp2_with fail
  refine hln.mono ?_
  rintro e w1 ⟨u, rfl, hL, h1⟩
  have hL0 := hL
  obtain ⟨g, off, cap, rfl, -⟩ := hL0
  have hg1' := hg1 w1 hL h1
  have HL := Lib.hid hL
  clear hg1 hL hln
  have hkp' := fun w1 => hkp w1 (u := .slice (some ⟨g, off, none⟩) bs.length cap)
  rw [HN.out.1] at hg1' hkp' ⊢
  go_wp2_with (first | (go_at_call 11; refine hg1'.mono ?_; rintro e w2 ⟨rfl, h2⟩) | (go_at_call 12; refine (hg2 _ (h1.trans h2)).mono ?_; rintro e w3 ⟨rfl, h3⟩) | (go_at_call 13; refine (hkp' _ (by have := (HL.out.only h2 (by simp)).only h3 (by simp); rwa [HN.out.1] at this) ((h1.trans h2).trans h3)).mono ?_; rintro e w4 ⟨rfl, h4⟩) | (go_at_call 9; refine (haw _ (((h1.trans h2).trans h3).trans h4)).mono ?_; rintro e w5 ⟨rfl, h5⟩))
  go_ret
  exact ⟨rfl, (((h1.trans h2).trans h3).trans h4).trans h5⟩

set_option maxRecDepth 100000 in
set_option maxHeartbeats 2000000 in
theorem PatternTells_walk {w : World} (hsp : Spaced w) (n : Int) (hn : -9223372036854775808 ≤ n ∧ n ≤ 9223372036854775807) (b : Int) (_hb : -9223372036854775808 ≤ b ∧ b ≤ 9223372036854775807) :
    Calls Tryd.prog 4 #[.int .i64 n, .int .i64 b] w fun e w' => e = .returned (.bool true) ∧ OnlyIn [] w w' := by
  have hp1 := fun w1 (ho : OnlyIn [] w w1) => pPut_any w1 (hsp.only ho) n hn
  have hp2 := fun w => rpPut_any w n
  have hh1 := fun w => pHas_any w n b
  have hh2 := fun w => rpHas_any w n b
  have hc1 := fun w => pCount_any w n
  have hc2 := fun w => rpCount_any w n
  have haw := fun w1 (ho : OnlyIn [] w w1) => awake07 w1 (hsp.only ho)
  obtain ⟨⟨s, es⟩, hs⟩ : ∃ y, putOf (told pz) n = y := ⟨_, rfl⟩
  rw [hs] at hp1 hp2
  simp only at hp1 hp2
  generalize hasF n b = z at hh1 hh2
  generalize cntTo n 6 = q at hc1 hc2
  have bs : (s.toList == s.toList) = true := by simp
  have be : (es == es) = true := by simp
  have bz : (z == z) = true := by simp
  have bq : ((q : Int) == (q : Int)) = true := by simp
  clear hs
  go_enter Tryd.func4, Tryd.ntmps4
  go_wp2_with (first | (go_at_call 14; refine (hp1 _ (OnlyIn.refl _ _)).mono ?_; rintro e w1 ⟨rfl, h1⟩) | (go_at_call 15; refine (hp2 _).mono ?_; rintro e w2 ⟨rfl, h2⟩) | (go_at_call 16; refine (hh1 _).mono ?_; rintro e w3 ⟨rfl, h3⟩) | (go_at_call 17; refine (hh2 _).mono ?_; rintro e w' ⟨rfl, rfl⟩) | (go_at_call 18; refine (hc1 _).mono ?_; rintro e w4 ⟨rfl, h4⟩) | (go_at_call 19; refine (hc2 _).mono ?_; rintro e w' ⟨rfl, rfl⟩) | (go_at_call 9; refine (haw _ (((h1.trans h2).trans h3).trans h4)).mono ?_; rintro e w5 ⟨rfl, h5⟩))
  go_ret
  exact ⟨by simp, (((h1.trans h2).trans h3).trans h4).trans h5⟩
end Go.Proofs.YteblkjmeaojegaaDoor
