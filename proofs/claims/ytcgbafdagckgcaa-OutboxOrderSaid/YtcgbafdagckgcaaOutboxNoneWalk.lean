/-
  Law 24, OutboxNone and OutboxKnown: the walks.
-/
import Derived.Test.YtcgbafdagckgcaaOutboxg
namespace Go.Proofs.Ytcgbafdagckgcaa
open Go.RowKit Go.Mine

set_option maxRecDepth 100000 in
theorem Known_walk (w : World) : Calls Try.prog 6 #[] w fun e w' => e = .returned (.bool true) ∧ OnlyIn [] w w' := by
  go_enter Try.func6, Try.ntmps6
  go_wp2_with fail
  refine (two_any w).mono ?_
  rintro e w1 ⟨b, r, rfl, ho1, hb, hr, ht1⟩
  go_wp2_with fail
  refine (pops_ok w1 7 ho1).mono ?_
  rintro e w2 ⟨rfl, ho2, ht2⟩
  go_wp2_with fail
  refine (Push_room w2 ho2 (by simp) (by omega) ⟨9, 0, 0, 0⟩).mono ?_
  rintro e w3 ⟨rfl, ho3, ht3⟩
  go_wp2_with fail
  refine (All_any w3 b r _ _ _ ho3).mono ?_
  rintro e w4 ⟨v4, rfl, hs4, ht4⟩
  have ho4 := ho3.only ht4 (by simp) (by simp)
  have hta := ((ht1.then ht2 (by simp; omega)).then ht3 (by simp; omega)).trans ht4
  clear ht1 ht2 ht3 ht4 ho1 ho2 ho3
  go_wp2_with fail
  refine (of_any _ _ [8, 9] (Rd.lit w4 [.int .i64 8, .int .i64 9] 3 2 rfl) (by simp)).mono ?_
  rintro e w5 ⟨v5, rfl, hs5, ht5⟩
  have ht5' : OnlyIn [] w4 w5 := ((OnlyIn.refl [] w4).alloc _).trans ht5
  have ho5 := ho4.only ht5' (by simp) (by simp)
  have hs5' := hs4.only ht5' (by simp)
  have htb := hta.trans ht5'
  clear ht5 ht5' hs4 ho4 hta
  go_wp2_with fail
  refine (SameItems_same w5 v4 v5 [⟨8, 0, 0, 0⟩, ⟨9, 0, 0, 0⟩] (Rd.of_sl hs5') (Rd.of_sl hs5) (by simp)).mono ?_
  rintro e w6 ⟨rfl, hw6⟩
  have ht6 : OnlyIn [] w5 w6 := OnlyIn.of_draws hw6
  have ho6 := ho5.only ht6 (by simp) (by simp)
  have htc := htb.trans ht6
  clear hw6 ht6 htb ho5 hs5 hs5'
  go_wp2_with fail
  refine (Clear_any w6 b r _ _ _ ho6).mono ?_
  rintro e w7 ⟨v7, rfl, hs7, ho7, ht7⟩
  have htd := htc.then ht7 (by simp; omega)
  clear ho6 ht7 htc
  go_wp2_with fail
  refine (of_any _ _ [8, 9] (Rd.lit w7 [.int .i64 8, .int .i64 9] 3 2 rfl) (by simp)).mono ?_
  rintro e w8 ⟨v8, rfl, hs8, ht8⟩
  have ht8' : OnlyIn [] w7 w8 := ((OnlyIn.refl [] w7).alloc _).trans ht8
  have ho8 := ho7.only ht8' (by simp) (by simp)
  have hs8' := hs7.only ht8' (by simp)
  have hte := htd.trans ht8'
  clear ht8 ht8' hs7 ho7 htd
  go_wp2_with fail
  refine (SameItems_same w8 v7 v8 [⟨8, 0, 0, 0⟩, ⟨9, 0, 0, 0⟩] (Rd.of_sl hs8') (Rd.of_sl hs8) (by simp)).mono ?_
  rintro e w9 ⟨rfl, hw9⟩
  have ht9 : OnlyIn [] w8 w9 := OnlyIn.of_draws hw9
  have ho9 := ho8.only ht9 (by simp) (by simp)
  have htf := hte.trans ht9
  clear hw9 ht9 hte ho8 hs8 hs8'
  go_wp2_with fail
  refine (pops_empty w9 ho9).mono ?_
  rintro e w10 ⟨rfl, ht10⟩
  have ho10 := ho9.only ht10 (by simp) (by simp)
  have htg := htf.trans ht10
  clear ht10 htf ho9
  go_wp2_with fail
  refine (Ever_any w10 ho10).mono ?_
  rintro e w' ⟨rfl, rfl⟩
  go_wp2_with fail
  refine (New_bad w10 0 (by omega)).mono ?_
  rintro e w' ⟨rfl, rfl⟩
  go_wp2_with fail
  refine (New_bad w10 1001 (by omega)).mono ?_
  rintro e w' ⟨rfl, rfl⟩
  go_wp2_with fail
  refine (awake_any w10).mono ?_
  rintro e w11 ⟨rfl, ht11⟩
  go_wp2_with fail
  go_ret
  exact ⟨by simp, htg.trans ht11⟩

set_option maxRecDepth 100000 in
theorem None_walk (i : Item) (_ : True) (w : World) : Calls Try.prog 5 #[.agg #[.int .i64 i.f, .int .i64 i.g, .int .i64 i.t, .int .i64 i.y]] w fun e w' => e = .returned (.bool true) ∧ OnlyIn [] w w' := by
  go_enter Try.func5, Try.ntmps5
  go_wp2_with fail
  have b0 : Blk (w.alloc (.cells i.cells.toArray 30)) w.heap.size 30 i.cells := Blk.new _ _ _
  have b1 := Blk.new (w.alloc (.cells i.cells.toArray 30)) 49 [.slice none 0 0, .int .i64 0, .int .i64 0]
  have b2 := Blk.new ((w.alloc (.cells i.cells.toArray 30)).alloc (.cells [.slice none 0 0, .int .i64 0, .int .i64 0].toArray 49)) 24 [.pointer none, .pointer (some ⟨w.heap.size + 1, 0, none⟩)]
  simp only [World.size_alloc] at b1 b2
  go_loopw [4] (fun j wr => ∃ k : Nat, k ≤ 2 ∧ j = .int .i64 (k : Int) ∧ OnlyIn [] w wr ∧ Blk wr w.heap.size 30 i.cells ∧ Blk wr (w.heap.size + 1) 49 [.slice none 0 0, .int .i64 0, .int .i64 0] ∧ Blk wr (w.heap.size + 1 + 1) 24 [.pointer none, .pointer (some ⟨w.heap.size + 1, 0, none⟩)]) (fun j _ => 2 - (intOf j).toNat)
  case atStart => exact ⟨0, by omega, rfl, by (repeat (first | (with_reducible assumption) | (with_reducible exact OnlyIn.refl _ _) | (with_reducible refine OnlyIn.setCell ?_ (by first | simp | (simp; omega)) _) | (with_reducible refine OnlyIn.drewN ?_ _) | (with_reducible refine OnlyIn.drew ?_) | (with_reducible refine OnlyIn.alloc ?_ _))), (b0.alloc _).alloc _, b1.alloc _, b2⟩
  case round =>
    clear b0 b1 b2
    obtain ⟨k, hk, rfl, ht, h0, h1, h2⟩ := hrel
    by_cases hlt : k < 2
    · obtain ⟨p0, hp0, hN⟩ : ∃ p0, ([.pointer none, .pointer (some ⟨w.heap.size + 1, 0, none⟩)] : List Value)[k]? = some (.pointer p0) ∧ NoOb wr (.pointer p0) := by
        obtain rfl | rfl : k = 0 ∨ k = 1 := by omega
        · exact ⟨none, rfl, .inl rfl⟩
        · exact ⟨_, rfl, .inr ⟨_, rfl, h1⟩⟩
      have q := h2.cell hp0
      clear hp0
      go_wp2_with fail
      refine (noPop wr _ hN).mono ?_
      rintro e w1 ⟨rfl, ht1⟩
      have hz := Blk.new w1 30 [.int .i64 0, .int .i64 0, .int .i64 0, .int .i64 0]
      have hta := ht1.alloc (.cells [.int .i64 0, .int .i64 0, .int .i64 0, .int .i64 0].toArray 30)
      have hN1 := hN.only hta
      have h01 := h0.only hta (by simp)
      have d0 := h01.cell (i := 0) rfl
      have d1 := h01.cell (i := 1) rfl
      have d2 := h01.cell (i := 2) rfl
      have d3 := h01.cell (i := 3) rfl
      have hs1 : w.heap.size + 1 + 1 < w1.heap.size := by have := h2.only ht1 (by simp); exact this.lt
      go_wp2_with fail
      refine (noPush _ _ hN1 i).mono ?_
      rintro e w3 ⟨rfl, ht3⟩
      have z3 := hz.only ht3 (by simp)
      have hN3 := hN1.only ht3
      have htb := hta.trans ht3
      clear hz hta h01 d0 d1 d2 d3 hN1 ht3
      have d0 := z3.cell (i := 0) rfl
      have d1 := z3.cell (i := 1) rfl
      have d2 := z3.cell (i := 2) rfl
      have d3 := z3.cell (i := 3) rfl
      go_wp2_with fail
      refine (noAll _ _ hN3).mono ?_
      rintro e w' ⟨rfl, rfl⟩
      go_wp2_with fail
      refine (noClear _ _ hN3).mono ?_
      rintro e w' ⟨rfl, rfl⟩
      go_wp2_with fail
      refine (noLen _ _ hN3).mono ?_
      rintro e w' ⟨rfl, rfl⟩
      go_wp2_with fail
      refine (noRoom _ _ hN3).mono ?_
      rintro e w' ⟨rfl, rfl⟩
      go_wp2_with fail
      refine (noEver _ _ hN3).mono ?_
      rintro e w' ⟨rfl, rfl⟩
      go_wp2_with fail
      go_roundw
      case rel => exact ⟨k + 1, by omega, by go_num, ht.trans htb, h0.only htb (by simp), h1.only htb (by simp), h2.only htb (by simp)⟩
      case measure => simp [intOf]; omega
    · obtain rfl : k = 2 := by omega
      go_wp2_with fail
      refine (awake_any wr).mono ?_
      rintro e w3 ⟨rfl, ht3⟩
      go_wp2_with fail
      go_ret
      exact ⟨rfl, ht.trans ht3⟩

end Go.Proofs.Ytcgbafdagckgcaa
