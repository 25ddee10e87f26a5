/-
  Law 05: gets, puts, has, awake, KindKnown.
-/
import Derived.Test.YtheihohojmcbiaaKindOf
namespace Go.Proofs.Ytheihohojmcbiaa
open Go.RowKit Go.Mine

set_option maxRecDepth 100000 in
theorem gets05_yes (w : World) (v : Value) (bs : List UInt8) (hr : Rd w 1 v bs.length (byteCells bs)) (hl : bs.length ≤ 1000000000) (want size err : Int) (hy : getT KT bs 0 = (want, size, err)) :
    Calls Try.prog 22 #[.int .i64 want, .int .i64 size, .int .i64 err, v] w fun e w' => e = .returned (.bool true) ∧ OnlyIn [] w w' := by
  have hg := kGet_any w v bs hr hl 0 (by omega)
  rw [hy] at hg
  simp only at hg
  obtain ⟨A, c, rfl⟩ : ∃ A c, v = .slice A bs.length c := by
    obtain ⟨-, A, c, rfl, -⟩ := hr
    exact ⟨A, c, rfl⟩
  have b1 : (want == want) = true := by simp
  have b2 : (size == size) = true := by simp
  have b3 : (err == err) = true := by simp
  clear hy hr
  go_enter Try.func22, Try.ntmps22
  go_wp2_with (go_at_call 15; refine hg.mono ?_; rintro e w1 ⟨rfl, ht1⟩)
  go_ret
  exact ⟨by simp, ht1⟩

set_option maxRecDepth 100000 in
theorem puts05_yes (w : World) (x : Int) (hx : -9223372036854775808 ≤ x ∧ x ≤ 9223372036854775807) (want : List UInt8) (err : Int) (hy : putOf (told kz) x = (str want, err)) :
    Calls Try.prog 23 #[.int .i64 x, .string (str want), .int .i64 err] w fun e w' => e = .returned (.bool true) ∧ OnlyIn [] w w' := by
  have hg := kPut_any w x hx
  rw [hy] at hg
  simp only at hg
  have hbq := str_beq want want
  rw [decide_eq_true rfl] at hbq
  have b3 : (err == err) = true := by simp
  clear hy
  go_enter Try.func23, Try.ntmps23
  go_wp2_with (go_at_call 18; refine hg.mono ?_; rintro e w1 ⟨rfl, ht1⟩)
  go_ret
  exact ⟨by simp, ht1⟩

set_option maxRecDepth 100000 in
theorem has05_yes (w : World) (x : Int) (a b c d f : Bool) (h0 : kOf x 0 = a) (h1 : kOf x 1 = b) (h2 : kOf x 2 = c) (h3 : kOf x 3 = d) (h4 : kOf x 4 = f) (he : kErr x = 0) :
    Calls Try.prog 24 #[.int .i64 x, .agg #[.bool a, .bool b, .bool c, .bool d, .bool f]] w fun e w' => e = .returned (.bool true) ∧ OnlyIn [] w w' := by
  have hg := fun w1 => kOf_any w1 x
  unfold partsL at hg
  rw [h0, h1, h2, h3, h4, he] at hg
  clear h0 h1 h2 h3 h4 he
  go_enter Try.func24, Try.ntmps24
  go_wp2_with fail
  refine (hg _).mono ?_
  rintro e w1 ⟨rfl, ht1⟩
  have hO := (Keep.start [] w).alloc (.cells #[.bool a, .bool b, .bool c, .bool d, .bool f] 33)
  have hO1 := (hO.only0 ht1).alloc (.cells #[.bool a, .bool b, .bool c, .bool d, .bool f] 33)
  have c0 := hO1.cell 1 0 rfl rfl
  have c1 := hO1.cell 1 1 rfl rfl
  have c2 := hO1.cell 1 2 rfl rfl
  have c3 := hO1.cell 1 3 rfl rfl
  have c4 := hO1.cell 1 4 rfl rfl
  have b0 : (a == a) = true := by simp
  have b1 : (b == b) = true := by simp
  have b2 : (c == c) = true := by simp
  have b3 : (d == d) = true := by simp
  have b4 : (f == f) = true := by simp
  have HO := Lib.hid hO1.only
  clear hg hO hO1 ht1
  go_wp2_with fail
  go_ret
  exact ⟨by simp, HO.out⟩

set_option maxRecDepth 100000 in
set_option maxHeartbeats 4000000 in
theorem awake05 (w : World) : Calls Try.prog 13 #[] w fun e w' => e = .returned (.bool true) ∧ OnlyIn [] w w' := by
  go_enter Try.func13, Try.ntmps13
  go_wp2_with fail
  refine (gets05_yes _ _ [128] (Rd.lit w (byteCells [128]) 5 1 rfl) (by decide) 3 1 0 (by decide +kernel)).mono ?_
  rintro e w1 ⟨rfl, ht1⟩
  have o1 := ((OnlyIn.refl [] w).alloc (.cells (byteCells [128]).toArray 5)).trans ht1
  clear ht1
  go_wp2_with fail
  refine (gets05_yes _ _ [16] (Rd.lit w1 (byteCells [16]) 5 1 rfl) (by decide) 1 4 0 (by decide +kernel)).mono ?_
  rintro e w2 ⟨rfl, ht2⟩
  have o2 := (o1.alloc (.cells (byteCells [16]).toArray 5)).trans ht2
  clear ht2 o1
  go_wp2_with fail
  refine (puts05_yes _ 9 (by decide) [48, 49] 0 rfl).mono ?_
  rintro e w3 ⟨rfl, ht3⟩
  have o3 := o2.trans ht3
  clear ht3 o2
  go_wp2_with fail
  refine (has05_yes _ 1 true false false false false rfl rfl rfl rfl rfl rfl).mono ?_
  rintro e w4 ⟨rfl, ht4⟩
  have o4 := o3.trans ht4
  clear ht4 o3
  go_wp2_with fail
  go_ret
  exact ⟨rfl, o4⟩

set_option maxRecDepth 100000 in
set_option maxHeartbeats 4000000 in
theorem known05 (w : World) : Calls Try.prog 5 #[] w fun e w' => e = .returned (.bool true) ∧ OnlyIn [] w w' := by
  go_enter Try.func5, Try.ntmps5
  go_wp2_with fail
  refine (awake05 _).mono ?_
  rintro e w1 ⟨rfl, o1⟩
  go_wp2_with fail
  refine (gets05_yes _ _ [0, 64] (Rd.lit w1 (byteCells [0, 64]) 5 2 rfl) (by decide) 7 10 0 (by decide +kernel)).mono ?_
  rintro e w2 ⟨rfl, ht2⟩
  have o2 := (o1.alloc (.cells (byteCells [0, 64]).toArray 5)).trans ht2
  clear ht2 o1
  go_wp2_with fail
  refine (gets05_yes _ _ [0] (Rd.lit w2 (byteCells [0]) 5 1 rfl) (by decide) 0 0 5 (by decide +kernel)).mono ?_
  rintro e w3 ⟨rfl, ht3⟩
  have o3 := (o2.alloc (.cells (byteCells [0]).toArray 5)).trans ht3
  clear ht3 o2
  go_wp2_with fail
  refine (gets05_yes _ _ [0, 0] (Rd.lit w3 (byteCells [0, 0]) 5 2 rfl) (by decide) 0 0 7 (by decide +kernel)).mono ?_
  rintro e w4 ⟨rfl, ht4⟩
  have o4 := (o3.alloc (.cells (byteCells [0, 0]).toArray 5)).trans ht4
  clear ht4 o3
  go_wp2_with fail
  refine (puts05_yes _ 0 (by decide) [] 18 rfl).mono ?_
  rintro e w5 ⟨rfl, ht5⟩
  have o5 := o4.trans ht5
  clear ht5 o4
  go_wp2_with fail
  refine (puts05_yes _ 11 (by decide) [] 18 rfl).mono ?_
  rintro e w6 ⟨rfl, ht6⟩
  have o6 := o5.trans ht6
  clear ht6 o5
  go_wp2_with fail
  refine (has05_yes _ 10 false true true true true rfl rfl rfl rfl rfl rfl).mono ?_
  rintro e w7 ⟨rfl, ht7⟩
  have o7 := o6.trans ht7
  clear ht7 o6
  go_wp2_with fail
  go_ret
  exact ⟨rfl, o7⟩
end Go.Proofs.Ytheihohojmcbiaa
