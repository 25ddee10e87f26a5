/-
  Law 26: opens, ended, two, awake, alike.
-/
import Derived.Test.YtoknnplfdhffnaaTabOpen
import Derived.Test.YtoknnplfdhffnaaTabRef
import Derived.Test.YtoknnplfdhffnaaKitCopy
import Derived.Deep.RegionHeld3
namespace Go.Proofs.Ytoknnplfdhffnaa
open Go.RowKit Go.Mine

section
variable {b mb n N : Nat} {cs : List Int}
set_option maxRecDepth 100000 in
theorem opens_room (w : World) (h : TbAt w b mb n N cs) (hf : (liveOf cs).length < N) (hcs : cs.length < 100000) (hn : n < 100000) (x : Int) (hx : x = (cs.length : Int) + 1) : Calls Try.prog 17 #[.pointer (some ⟨b, 0, none⟩), .int .i64 x, .int .i64 0] w fun e w' => e = .returned (.bool true) ∧ TbAt w' b mb (n + 1) N (cs ++ [0]) ∧ OnlyIn [b, mb] w w' := by
  subst hx
  go_enter Try.func17, Try.ntmps17
  go_wp2_with fail
  refine (tOpen_room w h hf hcs hn).mono ?_
  rintro e w1 ⟨rfl, h1, ht⟩
  generalize (cs.length : Int) + 1 = z
  go_wp2_with fail
  go_ret
  exact ⟨by simp, h1, ht⟩
set_option maxRecDepth 100000 in
theorem opens_full (w : World) (h : TbAt w b mb n N cs) (hf : (liveOf cs).length = N) : Calls Try.prog 17 #[.pointer (some ⟨b, 0, none⟩), .int .i64 0, .int .i64 15] w fun e w' => e = .returned (.bool true) ∧ OnlyIn [] w w' := by
  go_enter Try.func17, Try.ntmps17
  go_wp2_with fail
  refine (tOpen_full w h hf).mono ?_
  rintro e w1 ⟨rfl, ht⟩
  go_wp2_with fail
  go_ret
  exact ⟨rfl, ht⟩
set_option maxRecDepth 100000 in
theorem ended_any (w : World) (h : TbAt w b mb n N cs) (x : Int) (hx : -9223372036854775808 ≤ x ∧ x ≤ 9223372036854775807) (c z : Int) : Calls Try.prog 15 #[.pointer (some ⟨b, 0, none⟩), .int .i64 x, .int .i64 c, .int .i64 z] w fun e w' => e = .returned (.bool ((causeA cs x).1 == c && (causeA cs x).2 == z)) ∧ OnlyIn [] w w' := by
  have hc := tCause_any w h x hx
  obtain ⟨⟨p, q⟩, hpq⟩ : ∃ pq, causeA cs x = pq := ⟨_, rfl⟩
  rw [hpq] at hc ⊢
  simp only at hc ⊢
  clear hpq h
  by_cases hp : p = c
  · have hp1 : (p == c) = true := by simpa using hp
    go_enter Try.func15, Try.ntmps15
    go_wp2_with fail
    refine hc.mono ?_
    rintro e w1 ⟨rfl, ht⟩
    go_wp2_with fail
    go_ret
    exact ⟨by simp [hp1], ht⟩
  · have hp1 : (p == c) = false := by simpa using hp
    go_enter Try.func15, Try.ntmps15
    go_wp2_with fail
    refine hc.mono ?_
    rintro e w1 ⟨rfl, ht⟩
    go_wp2_with fail
    go_ret
    exact ⟨by simp [hp1], ht⟩
set_option maxRecDepth 100000 in
theorem two_any (w : World) : Calls Try.prog 23 #[] w fun e w' => ∃ b mb, e = .returned (.pointer (some ⟨b, 0, none⟩)) ∧ TbAt w' b mb 2 2 [0, 0] ∧ OnlyIn [] w w' ∧ w.heap.size ≤ b ∧ w.heap.size ≤ mb := by
  go_enter Try.func23, Try.ntmps23
  go_wp2_with fail
  refine (tNew_ok (N := 2) w (by omega) (by omega)).mono ?_
  rintro e w1 ⟨b, mb, rfl, h1, ht1, hb, hm⟩
  go_wp2_with fail
  refine (opens_room w1 h1 (by decide) (by decide) (by decide) 1 rfl).mono ?_
  rintro e w2 ⟨rfl, h2, ht2⟩
  go_wp2_with fail
  refine (opens_room w2 h2 (by decide) (by decide) (by decide) 2 rfl).mono ?_
  rintro e w3 ⟨rfl, h3, ht3⟩
  go_wp2_with fail
  refine (opens_full w3 h3 (by decide)).mono ?_
  rintro e w4 ⟨rfl, ht4⟩
  have h4 := h3.only0 ht4
  have hta := ((ht1.then ht2 (by simp; omega)).then ht3 (by simp; omega)).trans ht4
  clear h1 h2 h3 ht1 ht2 ht3 ht4
  go_wp2_with fail
  refine (tLive_any w4 h4).mono ?_
  rintro e w5 ⟨v, rfl, hs, ht5⟩
  have h5 := h4.only0 ht5
  have hs5 : Sl w5 w4.heap.size 3 1 v 2 (intCells [1, 2]) := hs
  have htb := hta.trans ht5
  clear h4 ht5 hta hs
  go_wp2_with fail
  refine (SameInts_any _ v _ [1, 2] [1, 2] (Rd.of_sl (hs5.only ((OnlyIn.refl [] w5).alloc _) (by simp))) (Rd.lit w5 (intCells [1, 2]) 3 2 (size := 1) rfl) (by simp) (by simp)).mono ?_
  rintro e w6 ⟨rfl, ht6⟩
  have ht6' : OnlyIn [] w5 w6 := ((OnlyIn.refl [] w5).alloc _).trans ht6
  have h6 := h5.only0 ht6'
  have htc := htb.trans ht6'
  clear h5 ht6 ht6' htb hs5
  go_wp2_with fail
  refine (tRoom_any w6 h6).mono ?_
  rintro e w7 ⟨rfl, ht7⟩
  go_wp2_with fail
  go_ret
  exact ⟨b, mb, rfl, h6.only0 ht7, htc.trans ht7, hb, hm⟩
set_option maxRecDepth 100000 in
theorem awake_any (w : World) : Calls Try.prog 16 #[] w fun e w' => e = .returned (.bool true) ∧ OnlyIn [] w w' := by
  go_enter Try.func16, Try.ntmps16
  go_wp2_with fail
  refine (two_any w).mono ?_
  rintro e w1 ⟨b, mb, rfl, h1, ht1, hb, hm⟩
  go_wp2_with fail
  refine (tEnd_any w1 h1 (by decide) 1 (by decide) 6).mono ?_
  rintro e w2 ⟨rfl, h2, ht2⟩
  go_wp2_with fail
  refine (opens_room w2 h2 (by decide) (by decide) (by decide) 3 rfl).mono ?_
  rintro e w3 ⟨rfl, h3, ht3⟩
  go_wp2_with fail
  refine (ended_any w3 h3 1 (by decide) 6 0).mono ?_
  rintro e w4 ⟨rfl, ht4⟩
  go_wp2_with fail
  refine (tLast_any w4 (h3.only0 ht4)).mono ?_
  rintro e w' ⟨rfl, rfl⟩
  go_wp2_with fail
  go_ret
  exact ⟨rfl, ((ht1.then ht2 (by simp; omega)).then ht3 (by simp; omega)).trans ht4⟩
set_option maxRecDepth 100000 in
theorem alike_any (w : World) (h : TbAt w b mb n N cs) {b2 base : Nat} {v : Value} (hr : TRf w b2 base v N cs) (hbase : base ≤ w.heap.size) (x : Int) (hx : -9223372036854775808 ≤ x ∧ x ≤ 9223372036854775807) : Calls Try.prog 21 #[.pointer (some ⟨b, 0, none⟩), .pointer (some ⟨b2, 0, none⟩), .int .i64 x] w fun e w' => e = .returned (.bool true) ∧ OnlyIn [] w w' := by
  go_enter Try.func21, Try.ntmps21
  go_wp2_with fail
  refine (tCause_any w h x hx).mono ?_
  rintro e w1 ⟨rfl, ht1⟩
  have h1 := h.only0 ht1
  have r1 := hr.only0 ht1
  have s1 := ht1.size
  go_wp2_with fail
  refine (tRCause_any w1 r1 x hx).mono ?_
  rintro e w2 ⟨rfl, ht2⟩
  have h2 := h1.only0 ht2
  have r2 := r1.only0 ht2
  have s2 := ht2.size
  have hta := ht1.trans ht2
  generalize (causeA cs x).1 = p
  generalize (causeA cs x).2 = q
  clear h hr h1 r1 ht1 ht2
  go_wp2_with fail
  refine (tLive_any w2 h2).mono ?_
  rintro e w3 ⟨v3, rfl, hs3, ht3⟩
  have h3 := h2.only0 ht3
  have r3 := r2.only0 ht3
  have s3 := ht3.size
  have htb := hta.trans ht3
  clear h2 r2 hta ht3
  go_wp2_with fail
  refine (tRLive_any w3 r3 (by omega)).mono ?_
  rintro e w4 ⟨v4, rfl, hs4, ht4⟩
  have h4 := h3.only0 ht4
  have r4 := r3.only0 ht4
  have s4 := ht4.size
  have htc := htb.trans ht4
  have hs34 := hs3.only ht4 (by simp)
  clear h3 r3 htb ht4 hs3
  have rd3 := Rd.of_sl hs34
  have rd4 := Rd.of_sl hs4
  have hle := liveOf_le cs
  have hsm := r4.small
  have htop := r4.top
  have hsame := fun W (hW : OnlyIn [] w4 W) => SameInts_any W v3 v4 (liveOf cs) (liveOf cs) (rd3.cells fun p u hp => hW.cell hp (by simp)) (rd4.cells fun p u hp => hW.cell hp (by simp)) (by omega) (by omega)
  have hroom := fun W (hW : OnlyIn [] w4 W) => tRoom_any W (h4.only0 hW)
  have hlast := fun W (hW : OnlyIn [] w4 W) => tLast_any W (h4.only0 hW)
  obtain ⟨A3, c3, rfl, hc3⟩ := hs34.val
  obtain ⟨A4, c4, rfl, hc4⟩ := hs4.val
  obtain ⟨A5, c5, rfl, hc5⟩ := r4.sl.val
  have e0 := r4.blk.cell (i := 0) rfl
  have e1 := r4.blk.cell (i := 1) rfl
  simp only [decide_true] at hsame
  have HH := Lib.hid (And.intro h4 (And.intro r4 (And.intro hs34 (And.intro hs4 htc))))
  generalize (liveOf cs).length = m at *
  generalize hcn : cs.length = n at *
  clear h4 r4 hs34 hs4 htc rd3 rd4
  have hw : IntKind.i64.wrap ((N : Int) - (m : Int)) = (N : Int) - (m : Int) := by rw [IntKind.wrap_i64]; omega
  have hr1 : (p == p) = true := by simp
  have hr2 : (q == q) = true := by simp
  have hr3 : (((N : Int) - (m : Int)) == ((N : Int) - (m : Int))) = true := by simp
  have hr4 : ((n : Int) == (n : Int)) = true := by simp
  go_wp2_with fail
  go_region_held3 (fun W => OnlyIn [] w4 W ∧ W.cell? ⟨b2, 0, none⟩ = some (.int .i64 (N : Int)) ∧ W.cell? ⟨b2, 1, none⟩ = some (.slice A5 n c5)) (first | exact ⟨by (repeat (first | (with_reducible assumption) | (with_reducible exact OnlyIn.refl _ _) | (with_reducible refine OnlyIn.setCell ?_ (by first | simp | (simp; omega)) _) | (with_reducible refine OnlyIn.drewN ?_ _) | (with_reducible refine OnlyIn.drew ?_) | (with_reducible refine OnlyIn.alloc ?_ _))), e0, e1⟩ | exact ⟨ht5, d0, d1⟩ | exact ⟨ht6, x0, x1⟩) ((first | (go_at_call 24; with_reducible refine (hsame _ (by (repeat (first | (with_reducible assumption) | (with_reducible exact OnlyIn.refl _ _) | (with_reducible refine OnlyIn.setCell ?_ (by first | simp | (simp; omega)) _) | (with_reducible refine OnlyIn.drewN ?_ _) | (with_reducible refine OnlyIn.drew ?_) | (with_reducible refine OnlyIn.alloc ?_ _))))).mono ?_; rintro e w5 ⟨rfl, ht50⟩; have ht5 : OnlyIn [] w4 w5 := OnlyIn.trans (by (repeat (first | (with_reducible assumption) | (with_reducible exact OnlyIn.refl _ _) | (with_reducible refine OnlyIn.setCell ?_ (by first | simp | (simp; omega)) _) | (with_reducible refine OnlyIn.drewN ?_ _) | (with_reducible refine OnlyIn.drew ?_) | (with_reducible refine OnlyIn.alloc ?_ _)))) ht50; have d0 := ht5.cell e0 (by simp); have d1 := ht5.cell e1 (by simp); clear ht50; dsimp only) | (go_at_call 12; with_reducible refine (hroom _ (by (repeat (first | (with_reducible assumption) | (with_reducible exact OnlyIn.refl _ _) | (with_reducible refine OnlyIn.setCell ?_ (by first | simp | (simp; omega)) _) | (with_reducible refine OnlyIn.drewN ?_ _) | (with_reducible refine OnlyIn.drew ?_) | (with_reducible refine OnlyIn.alloc ?_ _))))).mono ?_; rintro e w6 ⟨rfl, ht60⟩; have ht6 : OnlyIn [] w4 w6 := OnlyIn.trans (by (repeat (first | (with_reducible assumption) | (with_reducible exact OnlyIn.refl _ _) | (with_reducible refine OnlyIn.setCell ?_ (by first | simp | (simp; omega)) _) | (with_reducible refine OnlyIn.drewN ?_ _) | (with_reducible refine OnlyIn.drew ?_) | (with_reducible refine OnlyIn.alloc ?_ _)))) ht60; have x0 := ht6.cell e0 (by simp); have x1 := ht6.cell e1 (by simp); clear ht60; dsimp only) | (go_at_call 13; with_reducible refine (hlast _ (by (repeat (first | (with_reducible assumption) | (with_reducible exact OnlyIn.refl _ _) | (with_reducible refine OnlyIn.setCell ?_ (by first | simp | (simp; omega)) _) | (with_reducible refine OnlyIn.drewN ?_ _) | (with_reducible refine OnlyIn.drew ?_) | (with_reducible refine OnlyIn.alloc ?_ _))))).mono ?_; rintro e w7 ⟨rfl, rfl⟩; dsimp only)))
  obtain ⟨h4, r4, hs34, hs4, htc⟩ := HH.out
  have hs6 := hs34.only ht6 (by simp)
  go_wp2_with fail
  refine (OverInts_any _ _ _ _ _ hs6 (by omega)).mono ?_
  rintro e w8 ⟨rfl, ht8⟩
  go_wp2_with fail
  go_ret
  refine ⟨rfl, (htc.trans ht6).then ht8 (fun j hj => .inr ?_)⟩
  have := (hs34.own_lt j (by simpa using hj)).1
  omega
end
end Go.Proofs.Ytoknnplfdhffnaa
