/-
  Package picture: the cursor's take.
-/
import Derived.Test.YtboipjdgccbjmaaReadAll
import Derived.Test.YtboipjdgccbjmaaInv
import Derived.Test.YtboipjdgccbjmaaKitBytes
namespace Go.Proofs.Ytboipjdgccbjmaa
open Go.RowKit Go.Mine

/-- A cursor. -/
abbrev Cur (w : World) (cb : Nat) (v : Value) (a bad : Int) : Prop := Blk w cb 86 [v, .int .i64 a, .int .i64 bad]

set_option maxRecDepth 100000 in
theorem take_bad (w : World) (cb : Nat) (v : Value) (a bad n : Int) (h : Cur w cb v a bad) (hb : bad ≠ 0) :
    Calls Try.prog 55 #[.pointer (some ⟨cb, 0, none⟩), .int .i64 n] w fun e w' => e = .returned (.int .i64 0) ∧ w = w' := by
  have c2 := h.cell (i := 2) rfl
  have hd : (bad == 0) = false := by simp [hb]
  clear h
  go_enter Try.func55, Try.ntmps55
  go_wp2
  go_ret
  exact ⟨rfl, rfl⟩
set_option maxRecDepth 100000 in
set_option maxHeartbeats 1000000 in
theorem take_ok (w : World) (cb : Nat) (v : Value) (bs : List UInt8) (a n : Nat) (h : Cur w cb v (a : Int) 0) (hr : Rd w 1 v bs.length (byteCells bs)) (hl : bs.length ≤ 1000000000) (hn : n ≤ 32) (hf : a + n ≤ 8 * bs.length) :
    Calls Try.prog 55 #[.pointer (some ⟨cb, 0, none⟩), .int .i64 (n : Int)] w fun e w' => e = .returned (.int .i64 (numAt bs a n : Int)) ∧ Cur w' cb v ((a + n : Nat) : Int) 0 ∧ OnlyIn [cb] w w' := by
  have k0 := h.cell (i := 0) rfl
  have k1 := h.cell (i := 1) rfl
  have k2 := h.cell (i := 2) rfl
  have hrd : ∀ W, OnlyIn [] w W → Rd W 1 v bs.length (byteCells bs) := fun W hW => hr.cells fun p u hp => hW.cell hp (by simp)
  have hr0 := Read_ok (w) v bs hr hl a n hn hf
  have HB := Lib.hid h
  obtain ⟨-, A, c, rfl, -⟩ := hr
  clear hr0 h
  have hw1 : IntKind.i64.wrap ((a : Int) + (n : Int)) = (a : Int) + (n : Int) := by rw [IntKind.wrap_i64]; omega
  have hx := numAt_lt bs a n
  obtain ⟨x, hxe⟩ : ∃ x, numAt bs a n = x := ⟨_, rfl⟩
  have hrk := fun W hW => Read_ok W _ bs (hrd W hW) hl a n hn hf
  rw [hxe] at hrk
  have HXE := Lib.hid hxe
  clear hrd hxe hx
  have HX := Lib.hid hf
  clear hf
  go_enter Try.func55, Try.ntmps55
  go_wp2_with fail
  (refine Go.Mine.wp_region_inv (Go.Mine.OnlyIn [] _) (by kernel_rfl) (by kernel_rfl) ((Go.Mine.OnlyIn.refl _ _).drew) ?_; (repeat (first | (refine Go.Mine.wpInv_run _ (by first | rfl | go_simp) (fun W hW => by (have c0 := hW.cell k0 (by simp); have c1 := hW.cell k1 (by simp); go_simp; first | exact ⟨rfl, hW⟩ | exact rfl | (simp only [Go.Mine.Oper.invUpon]; exact (hrk W hW).mono (fun e w'' h => ⟨h.1, by rw [← h.2]; exact hW⟩)))) ?_; go_simp) | (refine Go.Mine.wpInv_skip (by first | rfl | go_simp) ?_; go_simp))); refine Go.Mine.wpInv_nil ?_; intro W hW; have c0 := hW.cell k0 (by simp); have c1 := hW.cell k1 (by simp))
  have ho := hW
  have HC := Lib.hid (HB.out.only hW (by simp))
  clear hW k0 k1 k2 c0 c1 hrk
  have c1 := HC.out.cell (i := 1) rfl
  have c2 := HC.out.cell (i := 2) rfl
  have f1 := HC.out.free 1
  have f2 := HC.out.free 2
  go_wp2_with fail
  go_ret
  refine ⟨by rw [HXE.out]; rfl, ?_, ?_⟩
  · have := (HC.out.set 2 (.int .i64 0)).set 1 (.int .i64 ((a : Int) + (n : Int)))
    rw [show ((a + n : Nat) : Int) = (a : Int) + (n : Int) by omega]
    exact this
  · exact ((ho.mono (fun k _ h => by cases h)).setCell (p := ⟨cb, 2, none⟩) (.inl (by simp)) _).setCell (p := ⟨cb, 1, none⟩) (.inl (by simp)) _
set_option maxRecDepth 100000 in
set_option maxHeartbeats 1000000 in
theorem take_more (w : World) (cb : Nat) (v : Value) (bs : List UInt8) (a n : Nat) (h : Cur w cb v (a : Int) 0) (hr : Rd w 1 v bs.length (byteCells bs)) (hl : bs.length ≤ 1000000000) (hn : n ≤ 32) (ha : a ≤ 9223372036854775807) (hf : 8 * bs.length < a + n) :
    Calls Try.prog 55 #[.pointer (some ⟨cb, 0, none⟩), .int .i64 (n : Int)] w fun e w' => e = .returned (.int .i64 0) ∧ Cur w' cb v (a : Int) 5 ∧ OnlyIn [cb] w w' := by
  have k0 := h.cell (i := 0) rfl
  have k1 := h.cell (i := 1) rfl
  have k2 := h.cell (i := 2) rfl
  have HB := Lib.hid h
  obtain ⟨-, A, c, rfl, -⟩ := hr
  clear h
  have hrk := fun W => Read_more W A bs.length c hl (a : Int) (n : Int) (by omega) (by omega) (by omega) (by omega) (by omega)
  clear hf
  go_enter Try.func55, Try.ntmps55
  go_wp2_with fail
  (refine Go.Mine.wp_region_inv (Go.Mine.OnlyIn [] _) (by kernel_rfl) (by kernel_rfl) ((Go.Mine.OnlyIn.refl _ _).drew) ?_; (repeat (first | (refine Go.Mine.wpInv_run _ (by first | rfl | go_simp) (fun W hW => by (have c0 := hW.cell k0 (by simp); have c1 := hW.cell k1 (by simp); go_simp; first | exact ⟨rfl, hW⟩ | exact rfl | (simp only [Go.Mine.Oper.invUpon]; exact (hrk W).mono (fun e w'' h => ⟨h.1, by rw [← h.2]; exact hW⟩)))) ?_; go_simp) | (refine Go.Mine.wpInv_skip (by first | rfl | go_simp) ?_; go_simp))); refine Go.Mine.wpInv_nil ?_; intro W hW; have c0 := hW.cell k0 (by simp); have c1 := hW.cell k1 (by simp))
  have ho := hW
  have HC := Lib.hid (HB.out.only hW (by simp))
  clear hW k0 k1 k2 c0 c1 hrk
  have c1 := HC.out.cell (i := 1) rfl
  have c2 := HC.out.cell (i := 2) rfl
  have f1 := HC.out.free 1
  have f2 := HC.out.free 2
  go_wp2_with fail
  go_ret
  refine ⟨rfl, ?_, ?_⟩
  · exact HC.out.set 2 (.int .i64 5)
  · exact ((ho.mono (fun k _ h => by cases h)).setCell (p := ⟨cb, 2, none⟩) (.inl (by simp)) _)

/-- What a take comes to: the number, the place, the fault. -/
def takeF (bs : List UInt8) (a bad : Int) (n : Nat) : Int × Int × Int :=
  if bad ≠ 0 then (0, a, bad) else if 8 * (bs.length : Int) < a + (n : Int) then (0, a, 5) else ((numAt bs a.toNat n : Int), a + (n : Int), 0)
set_option maxRecDepth 100000 in
theorem take_any (w : World) (cb : Nat) (v : Value) (bs : List UInt8) (a bad : Int) (n : Nat) (h : Cur w cb v a bad) (hr : Rd w 1 v bs.length (byteCells bs)) (hl : bs.length ≤ 1000000000) (hn : n ≤ 32) (ha0 : 0 ≤ a) (ha : a ≤ 9223372036854775807) :
    Calls Try.prog 55 #[.pointer (some ⟨cb, 0, none⟩), .int .i64 (n : Int)] w fun e w' => e = .returned (.int .i64 (takeF bs a bad n).1) ∧ Cur w' cb v (takeF bs a bad n).2.1 (takeF bs a bad n).2.2 ∧ OnlyIn [cb] w w' := by
  unfold takeF
  by_cases hb : bad ≠ 0
  · rw [if_pos hb]
    refine (take_bad w cb v a bad n h hb).mono ?_
    rintro e w' ⟨rfl, rfl⟩
    exact ⟨rfl, h, OnlyIn.refl _ _⟩
  · rw [if_neg hb]
    have hb0 : bad = 0 := by omega
    subst hb0
    obtain ⟨a, rfl⟩ := Int.eq_ofNat_of_zero_le ha0
    by_cases hm : 8 * (bs.length : Int) < (a : Int) + (n : Int)
    · rw [if_pos hm]
      exact take_more w cb v bs a n h hr hl hn (by omega) (by omega)
    · rw [if_neg hm]
      exact (take_ok w cb v bs a n h hr hl hn (by omega)).mono fun e w' ⟨h1, h2, h3⟩ => ⟨by rw [h1]; simp, by simpa using h2, h3⟩
end Go.Proofs.Ytboipjdgccbjmaa
