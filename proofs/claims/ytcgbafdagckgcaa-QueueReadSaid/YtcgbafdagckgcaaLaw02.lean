/-
  Law 02: feeds, has, three, awake, QueueKnown.
-/
import Derived.Test.YtcgbafdagckgcaaQueueBits2
import Derived.Test.YtcgbafdagckgcaaQueueRef
namespace Go.Proofs.Ytcgbafdagckgcaa
open Go.RowKit Go.Mine

set_option maxRecDepth 100000 in
theorem feeds_yes (w : World) {b r N f p came gone : Nat} {xs : List UInt8} (h : Qu w b r N f xs p came gone false) (v : Value) (bs : List UInt8) (hr : Rd w 1 v bs.length (byteCells bs)) (hne : 0 < bs.length → v.ownBlock ≠ some r) (hl : bs.length ≤ 1000000) (hcm : came ≤ 100000000) (x : Int) (hx : ((min bs.length (N - xs.length) : Nat) : Int) = x) :
    Calls Try.prog 39 #[.pointer (some ⟨b, 0, none⟩), .int .i64 x, .int .i64 0, v] w fun e w' => e = .returned (.bool true) ∧ Qu w' b r N f (xs ++ bs.take (N - xs.length)) p (came + min bs.length (N - xs.length)) gone false ∧ OnlyIn [b, r] w w' := by
  have hf := qFeed_ok w h v bs hr hne hl hcm
  rw [hx] at hf
  clear h hr hx
  go_enter Try.func39, Try.ntmps39
  go_wp2_with fail
  refine hf.mono ?_
  rintro e w1 ⟨rfl, h1, t1⟩
  clear hf
  go_wp2_with fail
  go_ret
  exact ⟨rfl, h1, t1⟩
set_option maxRecDepth 100000 in
theorem feeds_over (w : World) {b r N f p came gone : Nat} {xs : List UInt8} (h : Qu w b r N f xs p came gone true) (v : Value) :
    Calls Try.prog 39 #[.pointer (some ⟨b, 0, none⟩), .int .i64 0, .int .i64 20, v] w fun e w' => e = .returned (.bool true) ∧ w = w' := by
  have hf := qFeed_over w h v
  clear h
  go_enter Try.func39, Try.ntmps39
  go_wp2_with fail
  refine hf.mono ?_
  rintro e w1 ⟨rfl, rfl⟩
  clear hf
  go_wp2_with fail
  go_ret
  exact ⟨rfl, rfl⟩
set_option maxRecDepth 100000 in
theorem has_yes (w : World) {b r N f p came gone : Nat} {xs : List UInt8} {over : Bool} (h : Qu w b r N f xs p came gone over) (u : Value) (hu : Rd w 1 u xs.length (byteCells xs)) (y : Int) (hy : (p : Int) = y) :
    Calls Try.prog 40 #[.pointer (some ⟨b, 0, none⟩), .int .i64 y, u] w fun e w' => e = .returned (.bool true) ∧ OnlyIn [] w w' := by
  have hb := qBits_any w h
  rw [hy] at hb
  clear h hy
  go_enter Try.func40, Try.ntmps40
  go_wp2_with fail
  refine hb.mono ?_
  rintro e w1 ⟨v, rfl, hs, t1⟩
  clear hb
  have hsb := SameBytes_any w1 v u xs xs (Rd.of_sl hs) (hu.cells fun p u hp => t1.cell hp (by simp))
  rw [decide_eq_true rfl] at hsb
  clear hs hu
  go_wp2_with fail
  refine hsb.mono ?_
  rintro e w2 ⟨rfl, rfl⟩
  clear hsb
  go_wp2_with fail
  go_ret
  exact ⟨rfl, t1⟩

set_option maxRecDepth 100000 in
set_option maxHeartbeats 4000000 in
theorem three_any (w : World) : Calls Try.prog 41 #[] w fun e w' => ∃ b r f, e = .returned (.pointer (some ⟨b, 0, none⟩)) ∧ Qu w' b r 3 f [2, 3, 9] 4 4 12 false ∧ OnlyIn [] w w' ∧ w.heap.size ≤ b ∧ w.heap.size ≤ r := by
  have h0 := qNew_ok w 3 (by omega) (by omega)
  rw [show ((3 : Nat) : Int) = 3 from rfl] at h0
  go_enter Try.func41, Try.ntmps41
  go_wp2_with fail
  refine h0.mono ?_
  rintro e w1 ⟨rfl, h1, o1⟩
  clear h0
  have hb : w.heap.size ≤ w.heap.size + 1 := by omega
  have hr0 : w.heap.size ≤ w.heap.size := by omega
  generalize w.heap.size + 1 = b at h1 hb ⊢
  generalize hre : w.heap.size = r at h1 hr0 hb ⊢
  go_wp2_with fail
  have a2 := h1.only ((OnlyIn.refl [] w1).alloc (.cells (byteCells [1, 2, 3, 4]).toArray 5)) (by simp) (by simp)
  have n2 : (Value.slice (some ⟨w1.heap.size, 0, none⟩) 4 4).ownBlock ≠ some r := by have := h1.lt.2; simp [Value.ownBlock]; omega
  refine (feeds_yes _ a2 _ [1, 2, 3, 4] (Rd.lit w1 (byteCells [1, 2, 3, 4]) 5 4 rfl) (fun _ => n2) (by decide) (by decide) 3 (by decide)).mono ?_
  rintro e w2 ⟨rfl, h2, t2⟩
  have h2 : Qu w2 b r 3 0 [1, 2, 3] 0 3 0 false := h2
  have o2 : OnlyIn [] w w2 := (o1.alloc (.cells (byteCells [1, 2, 3, 4]).toArray 5)).then t2 (by simp; omega)
  clear a2 n2 t2 h1 o1
  have c := qFree_any w2 h2
  rw [show ((3 : Nat) : Int) - (([1, 2, 3] : List UInt8).length : Int) = 0 from by decide] at c
  go_wp2_with fail
  refine c.mono ?_
  rintro e w3 ⟨rfl, t3⟩
  have h3 := h2.only t3 (by simp) (by simp)
  have o3 := o2.trans t3
  clear c h2 o2 t3
  have c := qLeft_any w3 h3
  rw [show 8 * (([1, 2, 3] : List UInt8).length : Int) - ((0 : Nat) : Int) = 24 from by decide] at c
  go_wp2_with fail
  refine c.mono ?_
  rintro e w4 ⟨rfl, k4, hw4⟩
  have h4 : Qu w4 b r 3 0 [1, 2, 3] 0 3 0 false := by rw [hw4]; exact h3.drewN k4
  have o4 : OnlyIn [] w w4 := by rw [hw4]; exact o3.drewN k4
  clear c h3 o3 hw4
  have c := qSkip_ok w4 h4 12 (by decide) (by decide)
  rw [show ((12 : Nat) : Int) = 12 from rfl] at c
  go_wp2_with fail
  refine c.mono ?_
  rintro e w5 ⟨rfl, h5, t5⟩
  have h5 : Qu w5 b r 3 1 [2, 3] 4 3 12 false := h5
  have o5 : OnlyIn [] w w5 := o4.then t5 (by simp; omega)
  clear c h4 o4 t5
  go_wp2_with fail
  have a6 := h5.only ((OnlyIn.refl [] w5).alloc (.cells (byteCells [2, 3]).toArray 5)) (by simp) (by simp)
  refine (has_yes _ a6 _ (Rd.lit w5 (byteCells [2, 3]) 5 2 rfl) 4 (by decide)).mono ?_
  rintro e w6 ⟨rfl, t6⟩
  have h6 := a6.only t6 (by simp) (by simp)
  have o6 := (o5.alloc (.cells (byteCells [2, 3]).toArray 5)).trans t6
  clear a6 h5 o5 t6
  have c := qFree_any w6 h6
  rw [show ((3 : Nat) : Int) - (([2, 3] : List UInt8).length : Int) = 1 from by decide] at c
  go_wp2_with fail
  refine c.mono ?_
  rintro e w7 ⟨rfl, t7⟩
  have h7 := h6.only t7 (by simp) (by simp)
  have o7 := o6.trans t7
  clear c h6 o6 t7
  go_wp2_with fail
  have a8 := h7.only ((OnlyIn.refl [] w7).alloc (.cells (byteCells [9, 9]).toArray 5)) (by simp) (by simp)
  have n8 : (Value.slice (some ⟨w7.heap.size, 0, none⟩) 2 2).ownBlock ≠ some r := by have := h7.lt.2; simp [Value.ownBlock]; omega
  refine (feeds_yes _ a8 _ [9, 9] (Rd.lit w7 (byteCells [9, 9]) 5 2 rfl) (fun _ => n8) (by decide) (by decide) 1 (by decide)).mono ?_
  rintro e w8 ⟨rfl, h8, t8⟩
  have h8 : Qu w8 b r 3 1 [2, 3, 9] 4 4 12 false := h8
  have o8 : OnlyIn [] w w8 := (o7.alloc (.cells (byteCells [9, 9]).toArray 5)).then t8 (by simp; omega)
  clear a8 n8 t8 h7 o7
  go_wp2_with fail
  go_ret
  exact ⟨b, r, 1, rfl, h8, o8, by omega, by omega⟩

set_option maxRecDepth 100000 in
set_option maxHeartbeats 1000000 in
theorem awake_any02 (w : World) : Calls Try.prog 33 #[] w fun e w' => e = .returned (.bool true) ∧ OnlyIn [] w w' := by
  go_enter Try.func33, Try.ntmps33
  go_wp2_with fail
  refine (three_any w).mono ?_
  rintro e w1 ⟨b, r, f, rfl, h1, o1, -, -⟩
  go_wp2_with fail
  have a2 := h1.only ((OnlyIn.refl [] w1).alloc (.cells (byteCells [2, 3, 9]).toArray 5)) (by simp) (by simp)
  refine (has_yes _ a2 _ (Rd.lit w1 (byteCells [2, 3, 9]) 5 3 rfl) 4 (by decide)).mono ?_
  rintro e w2 ⟨rfl, t2⟩
  have h2 := a2.only t2 (by simp) (by simp)
  have o2 := (o1.alloc (.cells (byteCells [2, 3, 9]).toArray 5)).trans t2
  clear a2 h1 o1 t2
  have c := qLeft_any w2 h2
  rw [show 8 * (([2, 3, 9] : List UInt8).length : Int) - ((4 : Nat) : Int) = 20 from by decide] at c
  clear h2
  go_wp2_with fail
  refine c.mono ?_
  rintro e w3 ⟨rfl, k, rfl⟩
  clear c
  go_wp2_with fail
  go_ret
  exact ⟨rfl, o2.drewN k⟩

set_option maxRecDepth 100000 in
set_option maxHeartbeats 4000000 in
theorem known_any02 (w : World) : Calls Try.prog 9 #[] w fun e w' => e = .returned (.bool true) ∧ OnlyIn [] w w' := by
  go_enter Try.func9, Try.ntmps9
  go_wp2_with fail
  refine (three_any w).mono ?_
  rintro e w1 ⟨b, r, f, rfl, h1, o1, hb, hr⟩
  have c := qSkip_bad w1 h1 21 (by decide)
  go_wp2_with fail
  refine c.mono ?_
  rintro e w2 ⟨rfl, t2⟩
  have h2 := h1.only t2 (by simp) (by simp)
  have o2 := o1.trans t2
  clear c h1 o1 t2
  have c := qSkip_ok w2 h2 20 (by decide) (by decide)
  rw [show ((20 : Nat) : Int) = 20 from rfl] at c
  go_wp2_with fail
  refine c.mono ?_
  rintro e w3 ⟨rfl, h3, t3⟩
  generalize (f + (4 + 20) / 8) % 3 = f3 at h3
  have h3 : Qu w3 b r 3 f3 [] 0 4 32 false := h3
  have o3 : OnlyIn [] w w3 := o2.then t3 (by simp; omega)
  clear c h2 o2 t3
  go_wp2_with fail
  refine (has_yes _ h3 (.slice none 0 0) (Rd.nil _ _) 0 rfl).mono ?_
  rintro e w4 ⟨rfl, t4⟩
  have h4 := h3.only t4 (by simp) (by simp)
  have o4 := o3.trans t4
  clear h3 o3 t4
  have c := qGone_any w4 h4
  rw [show ((32 : Nat) : Int) = 32 from rfl] at c
  go_wp2_with fail
  refine c.mono ?_
  rintro e w5 ⟨rfl, rfl⟩
  clear c
  have c := qCame_any w4 h4
  rw [show ((4 : Nat) : Int) = 4 from rfl] at c
  go_wp2_with fail
  refine c.mono ?_
  rintro e w5 ⟨rfl, rfl⟩
  clear c
  go_wp2_with fail
  refine (qNew_bad _ 0 (by decide)).mono ?_
  rintro e w5 ⟨rfl, rfl⟩
  go_wp2_with fail
  refine (qNew_bad _ 1048577 (by decide)).mono ?_
  rintro e w5 ⟨rfl, rfl⟩
  go_wp2_with fail
  refine (awake_any02 _).mono ?_
  rintro e w5 ⟨rfl, t5⟩
  have h5 := h4.only t5 (by simp) (by simp)
  have o5 := o4.trans t5
  clear h4 o4 t5
  have c := qEnd_ok w5 h5
  go_wp2_with fail
  refine c.mono ?_
  rintro e w6 ⟨rfl, h6, t6⟩
  have o6 : OnlyIn [] w w6 := o5.then t6 (by simp; omega)
  clear c h5 o5 t6
  have c := qEnd_over w6 h6
  go_wp2_with fail
  refine c.mono ?_
  rintro e w7 ⟨rfl, rfl⟩
  clear c
  go_wp2_with fail
  have a7 := h6.only ((OnlyIn.refl [] w6).alloc (.cells (byteCells [1]).toArray 5)) (by simp) (by simp)
  refine (feeds_over _ a7 _).mono ?_
  rintro e w8 ⟨rfl, hw8⟩
  have h8 : Qu w8 b r 3 f3 [] 0 4 32 true := by rw [← hw8]; exact a7
  have o8 : OnlyIn [] w w8 := by rw [← hw8]; exact o6.alloc _
  clear a7 h6 o6 hw8
  go_wp2_with fail
  refine (feeds_over _ h8 _).mono ?_
  rintro e w9 ⟨rfl, rfl⟩
  clear h8
  go_wp2_with fail
  go_ret
  exact ⟨rfl, o8⟩
end Go.Proofs.Ytcgbafdagckgcaa
