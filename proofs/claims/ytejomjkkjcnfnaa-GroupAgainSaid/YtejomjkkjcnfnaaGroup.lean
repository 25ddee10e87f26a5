/-
  Package group and its reference: Put, Start, Whole.
-/
import Derived.Test.YtejomjkkjcnfnaaTextG
namespace Go.Mine
open Go.RowKit
/-- A header's text. -/
def headText (q : Nat) (s : List UInt8) : List UInt8 := txt (bitsOf q 5 ++ spareBits s)
def beginText (n : Nat) : List UInt8 := txt (bitsOf 1 16 ++ bitsOf n 4)
def headOf (q : Int) (s : List UInt8) : List UInt8 × Int := if 1 ≤ q ∧ q ≤ 31 ∧ s.length ≤ 32 then (headText q.toNat s, 0) else ([], 2)
def beginOf (n : Int) : List UInt8 × Int := if 0 ≤ n ∧ n ≤ 15 then (beginText n.toNat, 0) else ([], 3)
def wholeOf (n q : Int) (s : List UInt8) : List UInt8 × Int :=
  if 1 ≤ n ∧ n ≤ 15 then (if 1 ≤ q ∧ q ≤ 31 ∧ s.length ≤ 32 then (beginText n.toNat ++ headText q.toNat s, 0) else ([], 2)) else ([], 3)
theorem headText_length (q : Nat) (s : List UInt8) : (headText q s).length = 6 + 9 * s.length := by rw [headText, txt_length, List.length_append, bitsOf_length, spareBits_length]; omega
theorem beginText_length (n : Nat) : (beginText n).length = 20 := by rw [beginText, txt_length, List.length_append, bitsOf_length, bitsOf_length]
end Go.Mine
namespace Go.Proofs.Ytejomjkkjcnfnaa
open Go.RowKit Go.Mine

/-- A text and an error. -/
def TextErr (x : List UInt8 × Int) (e : Ending) : Prop := e = .returned (.tuple #[.string (str x.1), .int .i64 x.2])

set_option maxRecDepth 100000 in
theorem gPut_any (w : World) (q : Int) (v : Value) (s : List UInt8) (hr : Rd w 1 v s.length (byteCells s)) (hl : s.length ≤ 1000000000) :
    Calls Try.prog 43 #[.int .i64 q, v] w fun e w' => TextErr (headOf q s) e ∧ w = w' := by
  have hr' := hr
  obtain ⟨-, A, c, rfl, hc, -⟩ := hr'
  by_cases h1 : q < 1
  · rw [headOf, if_neg (by omega)]
    go_enter Try.func43, Try.ntmps43
    go_wp2
    go_ret2
    exact ⟨rfl, rfl⟩
  by_cases h2 : 31 < q
  · rw [headOf, if_neg (by omega)]
    clear hr
    go_enter Try.func43, Try.ntmps43
    go_wp2
    go_ret2
    exact ⟨rfl, rfl⟩
  by_cases h3 : 32 < s.length
  · rw [headOf, if_neg (by omega)]
    have h4 : decide ((32 : Int) < (s.length : Int)) = true := by simp; omega
    clear hr
    go_enter Try.func43, Try.ntmps43
    go_wp2
    go_ret2
    exact ⟨rfl, rfl⟩
  rw [headOf, if_pos (by omega)]
  obtain ⟨n, rfl⟩ := Int.eq_ofNat_of_zero_le (by omega : 0 ≤ q)
  have h4 : decide ((32 : Int) < (s.length : Int)) = false := by simp; omega
  have g1 := fun w => gnumber_any w [] n 5 (by omega) (by omega) (by simp)
  have g2 := gspare_any w (.slice A s.length c) ([] ++ txt (bitsOf n 5)) s hr (by simp [txt_length, bitsOf_length]) (by omega)
  obtain ⟨t1, ht1⟩ : ∃ t1, [] ++ txt (bitsOf n 5) = t1 := ⟨_, rfl⟩
  rw [ht1] at g1 g2
  have ht2 : t1 ++ txt (spareBits s) = headText n s := by rw [← ht1, headText, txt_append]; rfl
  rw [ht2] at g2
  clear hr ht1 ht2
  go_enter Try.func43, Try.ntmps43
  go_wp2_with (first | (go_at_call 64; refine (g1 _).mono ?_; rintro e w1 ⟨rfl, rfl⟩) | (go_at_call 65; refine g2.mono ?_; rintro e w1 ⟨rfl, rfl⟩))
  go_ret2
  exact ⟨rfl, rfl⟩

set_option maxRecDepth 100000 in
theorem rPut_any (w : World) (q : Int) (v : Value) (s : List UInt8) (hr : Rd w 1 v s.length (byteCells s)) (hl : s.length ≤ 1000000000) :
    Calls Try.prog 48 #[.int .i64 q, v] w fun e w' => TextErr (headOf q s) e ∧ OnlyIn [] w w' := by
  have hr' := hr
  obtain ⟨-, A, c, rfl, hc, -⟩ := hr'
  by_cases h1 : q < 1
  · rw [headOf, if_neg (by omega)]
    go_enter Try.func48, Try.ntmps48
    go_wp2
    go_ret2
    exact ⟨rfl, OnlyIn.refl _ _⟩
  by_cases h2 : 31 < q
  · rw [headOf, if_neg (by omega)]
    clear hr
    go_enter Try.func48, Try.ntmps48
    go_wp2
    go_ret2
    exact ⟨rfl, OnlyIn.refl _ _⟩
  by_cases h3 : 32 < s.length
  · rw [headOf, if_neg (by omega)]
    have h4 : decide ((32 : Int) < (s.length : Int)) = true := by simp; omega
    clear hr
    go_enter Try.func48, Try.ntmps48
    go_wp2
    go_ret2
    exact ⟨rfl, OnlyIn.refl _ _⟩
  rw [headOf, if_pos (by omega)]
  obtain ⟨n, rfl⟩ := Int.eq_ofNat_of_zero_le (by omega : 0 ≤ q)
  have h4 : decide ((32 : Int) < (s.length : Int)) = false := by simp; omega
  have g1 := fun w => rdigits_any w n 5 (by omega) (by omega)
  have g2 := fun W (hW : OnlyIn [] w W) => rspare_any W (.slice A s.length c) s (hr.cells fun p u hp => hW.cell hp (by simp)) (by omega)
  have ha := fun w => run_add_str (P := Try.prog) w (txt (bitsOf n 5)) (txt (spareBits s)) (by rw [txt_length, txt_length, bitsOf_length, spareBits_length]; omega)
  obtain ⟨t1, ht1⟩ : ∃ t1, txt (bitsOf n 5) = t1 := ⟨_, rfl⟩
  obtain ⟨t2, ht2⟩ : ∃ t1, txt (spareBits s) = t1 := ⟨_, rfl⟩
  have ht : t1 ++ t2 = headText n s := by rw [← ht1, ← ht2, headText, txt_append]
  rw [ht1, ht2, ht] at ha
  rw [ht1] at g1
  rw [ht2] at g2
  clear hr ht1 ht2 ht
  go_enter Try.func48, Try.ntmps48
  go_wp2_with (first | (go_at_call 67; refine (g1 _).mono ?_; rintro e w1 ⟨rfl, hto1⟩) | (go_at_call 68; refine (g2 _ hto1).mono ?_; rintro e w2 ⟨rfl, hto2⟩))
  go_ret2
  exact ⟨rfl, hto1.trans hto2⟩

set_option maxRecDepth 100000 in
theorem gStart_any (w : World) (n : Int) :
    Calls Try.prog 49 #[.int .i64 n] w fun e w' => TextErr (beginOf n) e ∧ w = w' := by
  by_cases h1 : n < 0
  · rw [beginOf, if_neg (by omega)]
    go_enter Try.func49, Try.ntmps49
    go_wp2
    go_ret2
    exact ⟨rfl, rfl⟩
  by_cases h2 : 15 < n
  · rw [beginOf, if_neg (by omega)]
    go_enter Try.func49, Try.ntmps49
    go_wp2
    go_ret2
    exact ⟨rfl, rfl⟩
  rw [beginOf, if_pos (by omega)]
  obtain ⟨n, rfl⟩ := Int.eq_ofNat_of_zero_le (by omega : 0 ≤ n)
  have g1 := fun w => gnumber_any w [] 1 16 (by omega) (by omega) (by simp)
  have g2 := fun w => gnumber_any w ([] ++ txt (bitsOf 1 16)) n 4 (by omega) (by omega) (by simp [txt_length, bitsOf_length])
  obtain ⟨t1, ht1⟩ : ∃ t1, [] ++ txt (bitsOf 1 16) = t1 := ⟨_, rfl⟩
  rw [ht1] at g1 g2
  have ht2 : t1 ++ txt (bitsOf n 4) = beginText n := by rw [← ht1, beginText, txt_append]; rfl
  rw [ht2] at g2
  clear ht1 ht2
  have tok : True := trivial
  go_enter Try.func49, Try.ntmps49
  go_wp2_with (first | (go_at_call 64; have _t := tok; refine (g1 _).mono ?_; rintro e w1 ⟨rfl, rfl⟩; clear tok _t) | (go_at_call 64; refine (g2 _).mono ?_; rintro e w1 ⟨rfl, rfl⟩))
  go_ret2
  exact ⟨rfl, rfl⟩

set_option maxRecDepth 100000 in
theorem rStart_any18 (w : World) (n : Int) :
    Calls Try.prog 50 #[.int .i64 n] w fun e w' => TextErr (beginOf n) e ∧ OnlyIn [] w w' := by
  by_cases h1 : n < 0
  · rw [beginOf, if_neg (by omega)]
    go_enter Try.func50, Try.ntmps50
    go_wp2
    go_ret2
    exact ⟨rfl, OnlyIn.refl _ _⟩
  by_cases h2 : 15 < n
  · rw [beginOf, if_neg (by omega)]
    go_enter Try.func50, Try.ntmps50
    go_wp2
    go_ret2
    exact ⟨rfl, OnlyIn.refl _ _⟩
  rw [beginOf, if_pos (by omega)]
  obtain ⟨n, rfl⟩ := Int.eq_ofNat_of_zero_le (by omega : 0 ≤ n)
  have g1 := fun w => rdigits_any w n 4 (by omega) (by omega)
  have ha := fun w => run_add_str (P := Try.prog) w (txt (bitsOf 1 16)) (txt (bitsOf n 4)) (by rw [txt_length, txt_length, bitsOf_length, bitsOf_length]; omega)
  obtain ⟨t2, ht2⟩ : ∃ t2, txt (bitsOf n 4) = t2 := ⟨_, rfl⟩
  have ht : txt (bitsOf 1 16) ++ t2 = beginText n := by rw [← ht2, beginText, txt_append]
  rw [ht2, ht] at ha
  rw [ht2] at g1
  have ha' : ∀ w, (Op.stringOp .add ⟨#[48, 48, 48, 48, 48, 48, 48, 48, 48, 48, 48, 48, 48, 48, 48, 49]⟩ (str t2)).run Try.prog w = .ok (.string (str (beginText n))) w := ha
  clear ht2 ht ha
  go_enter Try.func50, Try.ntmps50
  go_wp2_with (go_at_call 67; refine (g1 _).mono ?_; rintro e w1 ⟨rfl, hto1⟩)
  go_ret2
  exact ⟨rfl, hto1⟩

set_option maxRecDepth 100000 in
theorem gWhole_any (w : World) (n q : Int) (v : Value) (s : List UInt8) (hr : Rd w 1 v s.length (byteCells s)) (hl : s.length ≤ 1000000000) :
    Calls Try.prog 51 #[.int .i64 n, .int .i64 q, v] w fun e w' => TextErr (wholeOf n q s) e ∧ w = w' := by
  by_cases h0 : n = 0
  · subst h0
    rw [wholeOf, if_neg (by omega)]
    go_enter Try.func51, Try.ntmps51
    go_wp2
    go_ret2
    exact ⟨rfl, rfl⟩
  have g1 := fun w => gStart_any w n
  have g2 := gPut_any w q v s hr hl
  by_cases h1 : 0 ≤ n ∧ n ≤ 15
  · rw [beginOf, if_pos h1] at g1
    by_cases h2 : 1 ≤ q ∧ q ≤ 31 ∧ s.length ≤ 32
    · rw [headOf, if_pos h2] at g2
      rw [wholeOf, if_pos (by omega), if_pos h2]
      have ha := fun w => run_add_str (P := Try.prog) w (beginText n.toNat) (headText q.toNat s) (by rw [beginText_length, headText_length]; omega)
      clear hr
      obtain ⟨t1, ht1⟩ : ∃ t1, beginText n.toNat = t1 := ⟨_, rfl⟩
      obtain ⟨t2, ht2⟩ : ∃ t2, headText q.toNat s = t2 := ⟨_, rfl⟩
      obtain ⟨t3, ht3⟩ : ∃ t3, t1 ++ t2 = t3 := ⟨_, rfl⟩
      rw [ht1] at g1 ha
      rw [ht2] at g2 ha
      rw [ht1, ht2]
      rw [ht3] at ha
      rw [ht3]
      clear ht1 ht2 ht3
      go_enter Try.func51, Try.ntmps51
      go_wp2_with (first | (go_at_call 49; refine (g1 _).mono ?_; rintro e w1 ⟨rfl, rfl⟩) | (go_at_call 43; refine g2.mono ?_; rintro e w1 ⟨rfl, rfl⟩))
      go_ret2
      exact ⟨rfl, rfl⟩
    · rw [headOf, if_neg h2] at g2
      rw [wholeOf, if_pos (by omega), if_neg h2]
      clear hr
      go_enter Try.func51, Try.ntmps51
      go_wp2_with (first | (go_at_call 49; refine (g1 _).mono ?_; rintro e w1 ⟨rfl, rfl⟩) | (go_at_call 43; refine g2.mono ?_; rintro e w1 ⟨rfl, rfl⟩))
      go_ret2
      exact ⟨rfl, rfl⟩
  · rw [beginOf, if_neg h1] at g1
    rw [wholeOf, if_neg (by omega)]
    clear hr g2
    go_enter Try.func51, Try.ntmps51
    go_wp2_with (go_at_call 49; refine (g1 _).mono ?_; rintro e w1 ⟨rfl, rfl⟩)
    go_ret2
    exact ⟨rfl, rfl⟩

set_option maxRecDepth 100000 in
theorem rWhole_any (w : World) (n q : Int) (v : Value) (s : List UInt8) (hr : Rd w 1 v s.length (byteCells s)) (hl : s.length ≤ 1000000000) :
    Calls Try.prog 52 #[.int .i64 n, .int .i64 q, v] w fun e w' => TextErr (wholeOf n q s) e ∧ OnlyIn [] w w' := by
  by_cases h0 : n < 1
  · rw [wholeOf, if_neg (by omega)]
    go_enter Try.func52, Try.ntmps52
    go_wp2
    go_ret2
    exact ⟨rfl, OnlyIn.refl _ _⟩
  by_cases h1 : 15 < n
  · rw [wholeOf, if_neg (by omega)]
    clear hr
    go_enter Try.func52, Try.ntmps52
    go_wp2
    go_ret2
    exact ⟨rfl, OnlyIn.refl _ _⟩
  have g1 := fun w => rStart_any18 w n
  have g2 := rPut_any w q v s hr hl
  rw [beginOf, if_pos (by omega)] at g1
  by_cases h2 : 1 ≤ q ∧ q ≤ 31 ∧ s.length ≤ 32
  · rw [headOf, if_pos h2] at g2
    rw [wholeOf, if_pos (by omega), if_pos h2]
    have ha := fun w => run_add_str (P := Try.prog) w (beginText n.toNat) (headText q.toNat s) (by rw [beginText_length, headText_length]; omega)
    clear hr
    obtain ⟨t1, ht1⟩ : ∃ t1, beginText n.toNat = t1 := ⟨_, rfl⟩
    obtain ⟨t2, ht2⟩ : ∃ t2, headText q.toNat s = t2 := ⟨_, rfl⟩
    obtain ⟨t3, ht3⟩ : ∃ t3, t1 ++ t2 = t3 := ⟨_, rfl⟩
    rw [ht1] at g1 ha
    rw [ht2] at g2 ha
    rw [ht1, ht2]
    rw [ht3] at ha
    rw [ht3]
    clear ht1 ht2 ht3
    go_enter Try.func52, Try.ntmps52
    go_wp2_with (first | (go_at_call 50; refine (g1 _).mono ?_; rintro e w2 ⟨rfl, hto2⟩) | (go_at_call 48; refine g2.mono ?_; rintro e w1 ⟨rfl, hto1⟩))
    go_ret2
    exact ⟨rfl, hto1.trans hto2⟩
  · rw [headOf, if_neg h2] at g2
    rw [wholeOf, if_pos (by omega), if_neg h2]
    clear hr
    go_enter Try.func52, Try.ntmps52
    go_wp2_with (go_at_call 48; refine g2.mono ?_; rintro e w1 ⟨rfl, hto1⟩)
    go_ret2
    exact ⟨rfl, hto1⟩
end Go.Proofs.Ytejomjkkjcnfnaa
