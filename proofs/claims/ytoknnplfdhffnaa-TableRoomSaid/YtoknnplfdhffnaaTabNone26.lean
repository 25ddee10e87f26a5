/-
  Law 26: tables that nobody made; TableKnown and TableNone: the walks.
-/
import Derived.Test.YtoknnplfdhffnaaLaw26
namespace Go.Proofs.Ytoknnplfdhffnaa
open Go.RowKit Go.Mine

set_option maxRecDepth 100000 in
theorem tKnown_walk (w : World) : Calls Try.prog 7 #[] w fun e w' => e = .returned (.bool true) ∧ OnlyIn [] w w' := by
  go_enter Try.func7, Try.ntmps7
  go_wp2_with fail
  refine (two_any w).mono ?_
  rintro e w1 ⟨b, mb, rfl, h1, ht1, hb, hm⟩
  go_wp2_with fail
  refine (tEnd_any w1 h1 (by decide) 1 (by decide) 6).mono ?_
  rintro e w2 ⟨rfl, h2, ht2⟩
  go_wp2_with fail
  refine (opens_room w2 h2 (by decide) (by decide) (by decide) 3 rfl).mono ?_
  rintro e w3 ⟨rfl, h3, ht3⟩
  have hta := (ht1.then ht2 (by simp; omega)).then ht3 (by simp; omega)
  clear ht1 ht2 ht3 h1 h2
  go_wp2_with fail
  refine (tLive_any w3 h3).mono ?_
  rintro e w5 ⟨v, rfl, hs, ht5⟩
  have h5 := h3.only0 ht5
  have hs5 : Sl w5 w3.heap.size 3 1 v 2 (intCells [2, 3]) := hs
  have htb := hta.trans ht5
  clear h3 ht5 hta hs
  go_wp2_with fail
  refine (SameInts_any _ v _ [2, 3] [2, 3] (Rd.of_sl (hs5.only ((OnlyIn.refl [] w5).alloc _) (by simp))) (Rd.lit w5 (intCells [2, 3]) 3 2 (size := 1) rfl) (by simp) (by simp)).mono ?_
  rintro e w6 ⟨rfl, ht6⟩
  have ht6' : OnlyIn [] w5 w6 := ((OnlyIn.refl [] w5).alloc _).trans ht6
  have h6 := h5.only0 ht6'
  have htc := htb.trans ht6'
  clear h5 ht6 ht6' htb hs5
  go_wp2_with fail
  refine (ended_any w6 h6 3 (by decide) 0 0).mono ?_
  rintro e w7 ⟨rfl, ht7⟩
  have h7 := h6.only0 ht7
  go_wp2_with fail
  refine (ended_any w7 h7 4 (by decide) 0 18).mono ?_
  rintro e w8 ⟨rfl, ht8⟩
  have h8 := h7.only0 ht8
  have htd := (htc.trans ht7).trans ht8
  clear h6 h7 ht7 ht8 htc
  go_wp2_with fail
  refine (tNew_bad w8 0 (by omega)).mono ?_
  rintro e w' ⟨rfl, rfl⟩
  go_wp2_with fail
  refine (tNew_bad w8 65 (by omega)).mono ?_
  rintro e w' ⟨rfl, rfl⟩
  go_wp2_with fail
  refine (awake_any w8).mono ?_
  rintro e w9 ⟨rfl, ht9⟩
  have h9 := h8.only0 ht9
  have hte := htd.trans ht9
  clear h8 ht9 htd
  go_wp2_with fail
  refine (tEnd_any w9 h9 (by decide) 1 (by decide) 7).mono ?_
  rintro e w10 ⟨rfl, h10, ht10⟩
  go_wp2_with fail
  refine (tEnd_any w10 h10 (by decide) 4 (by decide) 6).mono ?_
  rintro e w11 ⟨rfl, h11, ht11⟩
  go_wp2_with fail
  refine (tEnd_any w11 h11 (by decide) 2 (by decide) 0).mono ?_
  rintro e w12 ⟨rfl, h12, ht12⟩
  go_wp2_with fail
  refine (tLast_any w12 h12).mono ?_
  rintro e w' ⟨rfl, rfl⟩
  go_wp2_with fail
  go_ret
  exact ⟨rfl, ((hte.then ht10 (by simp; omega)).then ht11 (by simp; omega)).then ht12 (by simp; omega)⟩

set_option maxRecDepth 100000 in
theorem noOpen (w : World) (p : Value) (hN : NoTab w p) : Calls Try.prog 10 #[p] w fun e w' => e = .returned (.tuple #[.int .i64 0, .int .i64 1]) ∧ w = w' := by
  have hp : p = .pointer none ∨ ∃ b, p = .pointer (some ⟨b, 0, none⟩) := hN.imp id fun ⟨b, h, _⟩ => ⟨b, h⟩
  rcases hp with rfl | ⟨b, rfl⟩
  all_goals
    go_enter Try.func10, Try.ntmps10
    go_wp2_with fail
    refine (tnone_yes _ _ hN).mono ?_
    rintro e w' ⟨rfl, rfl⟩
    go_wp2_with fail
    go_ret2
    exact ⟨rfl, rfl⟩
set_option maxRecDepth 100000 in
theorem noCause (w : World) (p : Value) (hN : NoTab w p) (x : Int) : Calls Try.prog 22 #[p, .int .i64 x] w fun e w' => e = .returned (.tuple #[.int .i64 0, .int .i64 1]) ∧ OnlyIn [] w w' := by
  have hp : p = .pointer none ∨ ∃ b, p = .pointer (some ⟨b, 0, none⟩) := hN.imp id fun ⟨b, h, _⟩ => ⟨b, h⟩
  rcases hp with rfl | ⟨b, rfl⟩
  all_goals
    go_enter Try.func22, Try.ntmps22
    go_wp2_with (go_at_call 25; first | (refine (tnone_yes _ _ hN).mono ?_; rintro e w' ⟨rfl, rfl⟩) | (refine (tnone_yes _ _ (hN.only ((OnlyIn.refl _ _).alloc _))).mono ?_; rintro e w' ⟨rfl, rfl⟩))
    go_ret2
    exact ⟨rfl, by (repeat (first | (with_reducible assumption) | (with_reducible exact OnlyIn.refl _ _) | (with_reducible refine OnlyIn.setCell ?_ (by first | simp | (simp; omega)) _) | (with_reducible refine OnlyIn.drewN ?_ _) | (with_reducible refine OnlyIn.drew ?_) | (with_reducible refine OnlyIn.alloc ?_ _)))⟩
set_option maxRecDepth 100000 in
theorem noEnd (w : World) (p : Value) (hN : NoTab w p) (x z : Int) : Calls Try.prog 11 #[p, .int .i64 x, .int .i64 z] w fun e w' => e = .returned (.int .i64 1) ∧ w = w' := by
  have hp : p = .pointer none ∨ ∃ b, p = .pointer (some ⟨b, 0, none⟩) := hN.imp id fun ⟨b, h, _⟩ => ⟨b, h⟩
  rcases hp with rfl | ⟨b, rfl⟩
  all_goals
    go_enter Try.func11, Try.ntmps11
    go_wp2_with fail
    refine (tnone_yes _ _ hN).mono ?_
    rintro e w' ⟨rfl, rfl⟩
    go_wp2_with fail
    go_ret
    exact ⟨rfl, rfl⟩
theorem leave_none {P : Program} {fn : Func} {R : Ending → World → Prop} {a : Act} {W : World} {v : Value} (hd : a.defers = []) (hr : (results fn a.tmps).run P W = .ok v W) (hR : R (.returned v) W) : bodyPostM Fence.wide 0 P fn R .ret a W := by
  show LeavesInM Fence.wide 0 P fn a.tmps R a.defers .returning W
  rw [hd]
  exact ⟨v, hr, hR⟩
set_option maxRecDepth 100000 in
theorem noLive (w : World) (p : Value) (hN : NoTab w p) : Calls Try.prog 14 #[p] w fun e w' => e = .returned (.slice none 0 0) ∧ w = w' := by
  have hp : p = .pointer none ∨ ∃ b, p = .pointer (some ⟨b, 0, none⟩) := hN.imp id fun ⟨b, h, _⟩ => ⟨b, h⟩
  rcases hp with rfl | ⟨b, rfl⟩
  all_goals
    (refine (callsIn_wide (n := 0)).1 ?_)
    refine callsIn_of_wp_marks Try.func14 rfl trivial ?_ rfl
    simp only [Try.ntmps14, List.size_toArray, List.length_cons, List.length_nil, Nat.reduceAdd, Nat.reduceSub, Array.replicate_succ, Array.replicate_zero, List.push_toArray, List.append_toArray, List.nil_append, List.cons_append]
    gi_wp2_with fail
    refine ⟨trivial, rfl, callsIn_wide.2 ((tnone_yes _ _ hN).mono ?_)⟩
    rintro e w' ⟨rfl, rfl⟩
    gi_wp2_with fail
    exact leave_none (v := .slice none 0 0) rfl (by simp [results, Try.results14, go_sem]) ⟨rfl, rfl⟩
set_option maxRecDepth 100000 in
theorem noRoom (w : World) (p : Value) (hN : NoTab w p) : Calls Try.prog 12 #[p] w fun e w' => e = .returned (.int .i64 0) ∧ w = w' := by
  have hp : p = .pointer none ∨ ∃ b, p = .pointer (some ⟨b, 0, none⟩) := hN.imp id fun ⟨b, h, _⟩ => ⟨b, h⟩
  rcases hp with rfl | ⟨b, rfl⟩
  all_goals
    go_enter Try.func12, Try.ntmps12
    go_wp2_with fail
    refine (tnone_yes _ _ hN).mono ?_
    rintro e w' ⟨rfl, rfl⟩
    go_wp2_with fail
    go_ret
    exact ⟨rfl, rfl⟩
set_option maxRecDepth 100000 in
theorem noLast (w : World) (p : Value) (hN : NoTab w p) : Calls Try.prog 13 #[p] w fun e w' => e = .returned (.int .i64 0) ∧ w = w' := by
  have hp : p = .pointer none ∨ ∃ b, p = .pointer (some ⟨b, 0, none⟩) := hN.imp id fun ⟨b, h, _⟩ => ⟨b, h⟩
  rcases hp with rfl | ⟨b, rfl⟩
  all_goals
    go_enter Try.func13, Try.ntmps13
    go_wp2_with fail
    refine (tnone_yes _ _ hN).mono ?_
    rintro e w' ⟨rfl, rfl⟩
    go_wp2_with fail
    go_ret
    exact ⟨rfl, rfl⟩
set_option maxRecDepth 100000 in
theorem tNone_walk {w : World} (a0 : Int) (g0 : -9223372036854775808 ≤ a0 ∧ a0 ≤ 9223372036854775807) (a1 : Int) (g1 : -9223372036854775808 ≤ a1 ∧ a1 ≤ 9223372036854775807) : Calls Try.prog 6 #[.int .i64 a0, .int .i64 a1] w fun e w' => e = .returned (.bool true) ∧ OnlyIn [] w w' := by
  go_enter Try.func6, Try.ntmps6
  go_wp2_with fail
  have b1 := Blk.new w 48 [.int .i64 0, .int .i64 0, .map none]
  have b2 := Blk.new (w.alloc (.cells [.int .i64 0, .int .i64 0, .map none].toArray 48)) 25 [.pointer none, .pointer (some ⟨w.heap.size, 0, none⟩)]
  simp only [World.size_alloc] at b1 b2
  go_loopw [6] (fun j wr => ∃ k : Nat, k ≤ 2 ∧ j = .int .i64 (k : Int) ∧ OnlyIn [] w wr ∧ Blk wr w.heap.size 48 [.int .i64 0, .int .i64 0, .map none] ∧ Blk wr (w.heap.size + 1) 25 [.pointer none, .pointer (some ⟨w.heap.size, 0, none⟩)]) (fun j _ => 2 - (RowKit.intOf j).toNat)
  case atStart => exact ⟨0, by omega, rfl, by (repeat (first | (with_reducible assumption) | (with_reducible exact OnlyIn.refl _ _) | (with_reducible refine OnlyIn.setCell ?_ (by first | simp | (simp; omega)) _) | (with_reducible refine OnlyIn.drewN ?_ _) | (with_reducible refine OnlyIn.drew ?_) | (with_reducible refine OnlyIn.alloc ?_ _))), b1.alloc _, b2⟩
  case round =>
    clear b1 b2
    obtain ⟨k, hk, rfl, ht, h1, h2⟩ := hrel
    by_cases hlt : k < 2
    · obtain ⟨p0, hp0, hN⟩ : ∃ p0, ([.pointer none, .pointer (some ⟨w.heap.size, 0, none⟩)] : List Value)[k]? = some (.pointer p0) ∧ NoTab wr (.pointer p0) := by
        obtain rfl | rfl : k = 0 ∨ k = 1 := by omega
        · exact ⟨none, rfl, .inl rfl⟩
        · exact ⟨_, rfl, .inr ⟨_, rfl, h1⟩⟩
      have q := h2.cell hp0
      clear hp0
      go_wp2_with fail
      refine (noOpen wr _ hN).mono ?_
      rintro e w' ⟨rfl, rfl⟩
      go_wp2_with fail
      refine (noCause wr _ hN a0).mono ?_
      rintro e w1 ⟨rfl, ht1⟩
      have hN1 := hN.only ht1
      have hta := ht.trans ht1
      have h11 := h1.only ht1 (by simp)
      have h21 := h2.only ht1 (by simp)
      clear hN h1 h2 ht ht1
      go_wp2_with fail
      refine (noEnd w1 _ hN1 a0 a1).mono ?_
      rintro e w' ⟨rfl, rfl⟩
      go_wp2_with fail
      refine (noLive w1 _ hN1).mono ?_
      rintro e w' ⟨rfl, rfl⟩
      go_wp2_with fail
      refine (noRoom w1 _ hN1).mono ?_
      rintro e w' ⟨rfl, rfl⟩
      go_wp2_with fail
      refine (noLast w1 _ hN1).mono ?_
      rintro e w' ⟨rfl, rfl⟩
      go_wp2_with fail
      go_roundw
      case rel => exact ⟨k + 1, by omega, by go_num, hta, h11, h21⟩
      case measure => simp [RowKit.intOf]; omega
    · obtain rfl : k = 2 := by omega
      go_wp2_with fail
      refine (awake_any wr).mono ?_
      rintro e w3 ⟨rfl, ht3⟩
      go_wp2_with fail
      go_ret
      exact ⟨rfl, ht.trans ht3⟩
end Go.Proofs.Ytoknnplfdhffnaa
