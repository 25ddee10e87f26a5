/-
  Law 01: reads, finds, starts, code, Long; what the examples come to.
-/
import Derived.Test.YtejomjkkjcnfnaaReadAll
import Derived.Test.YtejomjkkjcnfnaaBitsFind2
import Derived.Test.YtejomjkkjcnfnaaPenCode
namespace Go.Mine
def findAll (bs : List UInt8) (i : Int) : Int × Int := if i < 0 then (0, 3) else findOf bs i.toNat
def startAll (bs : List UInt8) (i : Int) : Int × Int × Int := if i < 0 then (0, 0, 3) else startOf bs i.toNat
end Go.Mine
namespace Go.Proofs.Ytejomjkkjcnfnaa
open Go.RowKit Go.Mine

set_option maxRecDepth 100000 in
theorem Find_all (w : World) (v : Value) (bs : List UInt8) (hr : Rd w 1 v bs.length (byteCells bs)) (hl : bs.length ≤ 1000000000) (i : Int) :
    Calls Try.prog 32 #[v, .int .i64 i] w fun e w' => e = .returned (.tuple #[.int .i64 (findAll bs i).1, .int .i64 (findAll bs i).2]) ∧ OnlyIn [] w w' := by
  unfold findAll
  by_cases h1 : i < 0
  · rw [if_pos h1]
    obtain ⟨-, A, c, rfl, -⟩ := hr
    exact Find_neg w A _ c i h1
  · rw [if_neg h1]
    obtain ⟨i, rfl⟩ := Int.eq_ofNat_of_zero_le (by omega : 0 ≤ i)
    exact Find_any w v bs hr hl i
set_option maxRecDepth 100000 in
theorem Start_all (w : World) (v : Value) (bs : List UInt8) (hr : Rd w 1 v bs.length (byteCells bs)) (hl : bs.length ≤ 1000000000) (i : Int) :
    Calls Try.prog 34 #[v, .int .i64 i] w fun e w' => e = .returned (.tuple #[.int .i64 (startAll bs i).1, .int .i64 (startAll bs i).2.1, .int .i64 (startAll bs i).2.2]) ∧ OnlyIn [] w w' := by
  unfold startAll
  by_cases h1 : i < 0
  · rw [if_pos h1]
    obtain ⟨-, A, c, rfl, -⟩ := hr
    exact Start_neg w A _ c i h1
  · rw [if_neg h1]
    obtain ⟨i, rfl⟩ := Int.eq_ofNat_of_zero_le (by omega : 0 ≤ i)
    exact Start_any w v bs hr hl i

set_option maxRecDepth 100000 in
theorem reads_any (w : World) (v : Value) (bs : List UInt8) (hr : Rd w 1 v bs.length (byteCells bs)) (hl : bs.length ≤ 1000000000) (i n x er : Int) (hi : i ≤ 9223372036854775807) :
    Calls Try.prog 28 #[v, .int .i64 i, .int .i64 n, .int .i64 x, .int .i64 er] w fun e w' => e = .returned (.bool (decide (readOf bs i n = (x, er)))) ∧ w = w' := by
  have hc := Read_all w v bs hr hl i n hi
  obtain ⟨⟨y, f⟩, hy⟩ : ∃ y, readOf bs i n = y := ⟨_, rfl⟩
  rw [hy] at hc
  rw [hy]
  clear hy
  by_cases h1 : y = x
  · by_cases h2 : f = er
    · subst h1 h2
      go_enter Try.func28, Try.ntmps28
      go_wp2_with (go_at_call 35; refine hc.mono ?_; rintro e w' ⟨rfl, rfl⟩)
      go_ret
      simp
    · have g1 : (f == er) = false := by simp [h2]
      have g2 : decide ((y, f) = (x, er)) = false := by simp [h2]
      subst h1
      have G2 := Lib.hid g2
      clear g2 h2
      go_enter Try.func28, Try.ntmps28
      go_wp2_with (go_at_call 35; refine hc.mono ?_; rintro e w' ⟨rfl, rfl⟩)
      go_ret
      exact ⟨by rw [G2.out]; rfl, rfl⟩
  · have g1 : (y == x) = false := by simp [h1]
    have g2 : decide ((y, f) = (x, er)) = false := by simp [h1]
    have G2 := Lib.hid g2
    clear g2 h1
    go_enter Try.func28, Try.ntmps28
    go_wp2_with (go_at_call 35; refine hc.mono ?_; rintro e w' ⟨rfl, rfl⟩)
    go_ret
    exact ⟨by rw [G2.out]; rfl, rfl⟩
set_option maxRecDepth 100000 in
theorem finds_yes (w : World) (v : Value) (bs : List UInt8) (hr : Rd w 1 v bs.length (byteCells bs)) (hl : bs.length ≤ 1000000000) (i x er : Int) (h : findAll bs i = (x, er)) :
    Calls Try.prog 29 #[v, .int .i64 i, .int .i64 x, .int .i64 er] w fun e w' => e = .returned (.bool true) ∧ OnlyIn [] w w' := by
  have hc := Find_all w v bs hr hl i
  rw [h] at hc
  clear h
  go_enter Try.func29, Try.ntmps29
  go_wp2_with (go_at_call 32; refine hc.mono ?_; rintro e w' ⟨rfl, ht⟩)
  go_ret
  exact ⟨rfl, ht⟩
set_option maxRecDepth 100000 in
theorem starts_yes (w : World) (v : Value) (bs : List UInt8) (hr : Rd w 1 v bs.length (byteCells bs)) (hl : bs.length ≤ 1000000000) (i x n er : Int) (h : startAll bs i = (x, n, er)) :
    Calls Try.prog 30 #[v, .int .i64 i, .int .i64 x, .int .i64 n, .int .i64 er] w fun e w' => e = .returned (.bool true) ∧ OnlyIn [] w w' := by
  have hc := Start_all w v bs hr hl i
  rw [h] at hc
  clear h
  go_enter Try.func30, Try.ntmps30
  go_wp2_with (go_at_call 34; refine hc.mono ?_; rintro e w' ⟨rfl, ht⟩)
  go_ret
  exact ⟨rfl, ht⟩
set_option maxRecDepth 100000 in
theorem code_any (w : World) (v : Value) (bs : List UInt8) (hr : Rd w 1 v bs.length (byteCells bs)) (hl : bs.length ≤ 1000000000) (i : Int) (hi : i ≤ 9223372036854775807) :
    Calls Try.prog 33 #[v, .int .i64 i] w fun e w' => e = .returned (.bool (decide (readOf bs i 16 = (1, 0)))) ∧ w = w' := by
  go_enter Try.func33, Try.ntmps33
  go_wp2_with (go_at_call 28; refine (reads_any w v bs hr hl i 16 1 0 hi).mono ?_; rintro e w' ⟨rfl, rfl⟩)
  go_ret
  exact ⟨rfl, rfl⟩

set_option maxRecDepth 100000 in
theorem reads_yes (w : World) (v : Value) (bs : List UInt8) (hr : Rd w 1 v bs.length (byteCells bs)) (hl : bs.length ≤ 1000000000) (i n x er : Int) (hi : i ≤ 9223372036854775807) (h : readOf bs i n = (x, er)) :
    Calls Try.prog 28 #[v, .int .i64 i, .int .i64 n, .int .i64 x, .int .i64 er] w fun e w' => e = .returned (.bool true) ∧ OnlyIn [] w w' :=
  (reads_any w v bs hr hl i n x er hi).mono fun _ _ ⟨he, hw⟩ => ⟨by rw [he, h]; simp, by subst hw; exact OnlyIn.refl _ _⟩
set_option maxRecDepth 100000 in
theorem awake_any (w : World) : Calls Try.prog 16 #[] w fun e w' => e = .returned (.bool true) ∧ OnlyIn [] w w' := by
  go_enter Try.func16, Try.ntmps16
  go_wp2_with fail
  refine (reads_any _ _ [165, 3] (Rd.lit w (byteCells [165, 3]) 5 2 rfl) (by decide) 0 4 10 0 (by decide)).mono ?_
  rintro e w1 ⟨rfl, hw⟩
  rw [show decide (readOf [165, 3] 0 4 = (10, 0)) = true from by decide]
  have hO : OnlyIn [] w w1 := by subst hw; exact (OnlyIn.refl _ _).alloc _
  clear hw
  go_wp2_with fail
  refine (reads_any _ _ [165, 3] (Rd.lit w1 (byteCells [165, 3]) 5 2 rfl) (by decide) 6 5 8 0 (by decide)).mono ?_
  rintro e w2 ⟨rfl, hw⟩
  rw [show decide (readOf [165, 3] 6 5 = (8, 0)) = true from by decide]
  have hO2 : OnlyIn [] w w2 := by subst hw; exact hO.alloc _
  clear hw hO
  go_wp2_with fail
  refine (finds_yes _ _ [255, 0, 1] (Rd.lit w2 (byteCells [255, 0, 1]) 5 3 rfl) (by decide) 0 8 0 (by decide)).mono ?_
  rintro e w3 ⟨rfl, ht⟩
  have hO3 : OnlyIn [] w w3 := (hO2.alloc _).trans ht
  clear ht hO2
  go_wp2_with fail
  refine (starts_yes _ _ [0, 1, 64] (Rd.lit w3 (byteCells [0, 1, 64]) 5 3 rfl) (by decide) 0 4 20 0 (by decide)).mono ?_
  rintro e w4 ⟨rfl, ht⟩
  have hO4 : OnlyIn [] w w4 := (hO3.alloc _).trans ht
  clear ht hO3
  go_wp2_with fail
  go_ret
  exact ⟨rfl, hO4⟩
end Go.Proofs.Ytejomjkkjcnfnaa
