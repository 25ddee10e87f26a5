/-
  Package outbox: New, Pop, and going through all.
-/
import Derived.Test.YtcgbafdagckgcaaOutbox
import Derived.Test.YtcgbafdagckgcaaRange
namespace Go.Proofs.Ytcgbafdagckgcaa
open Go.RowKit Go.Mine

/-! ### New -/
theorem Try.infoItem : (Try.prog.info? 30).map (fun i => (i.zero, i.size, i.bytes)) = some (some (.agg #[.int .i64 0, .int .i64 0, .int .i64 0, .int .i64 0]), 4, 32) := by kernel_rfl

theorem New_ok (w : World) (n : Nat) (h1 : 1 ≤ n) (h2 : n ≤ 1000) :
    Calls Try.prog 15 #[.int .i64 (n : Int)] w fun e w' => e = .returned (.tuple #[.pointer (some ⟨w.heap.size + 1, 0, none⟩), .int .i64 0]) ∧ Ob w' (w.heap.size + 1) w.heap.size n 0 [] ∧ OnlyIn [] w w' := by
  obtain ⟨i0, hi0, hz0, hz1, hz2⟩ := info_parts Try.infoItem
  have hmk := fun W => run_make_n (P := Try.prog) 42 30 i0 _ Try.underlying42 hi0 hz0 .i64 .i64 n (by rw [hz2]; omega) (by omega) W
  have hmf := made_flat Item.len (by omega) ⟨0, 0, 0, 0⟩ (z := (Value.agg #[.int .i64 0, .int .i64 0, .int .i64 0, .int .i64 0]).cells) rfl n
  simp only [hz1, hmf] at hmk
  clear hmf hi0 hz0 hz1 hz2
  go_enter Try.func15, Try.ntmps15
  go_wp2
  go_ret2
  refine ⟨rfl, ⟨by omega, h2, by simp, by simp, by omega, ?_, List.replicate n ⟨0, 0, 0, 0⟩, by simp, ?_, by simp⟩, ?_⟩
  · have := Blk.new (w.alloc (.cells ((List.replicate n (⟨0, 0, 0, 0⟩ : Item)).flatMap Item.cells).toArray 30)) 49 [.slice (some ⟨w.heap.size, 0, none⟩) n n, .int .i64 0, .int .i64 0]
    rw [World.size_alloc] at this
    exact this
  · exact (Blk.new w 30 ((List.replicate n (⟨0, 0, 0, 0⟩ : Item)).flatMap Item.cells)).alloc _
  · exact ((OnlyIn.refl _ _).alloc _).alloc _

theorem New_bad (w : World) (n : Int) (h : n < 1 ∨ 1000 < n) :
    Calls Try.prog 15 #[.int .i64 n] w fun e w' => e = .returned (.tuple #[.pointer none, .int .i64 3]) ∧ w = w' := by
  by_cases h1 : n < 1
  · go_enter Try.func15, Try.ntmps15
    go_wp2
    go_ret2
    exact ⟨rfl, rfl⟩
  · have h2 : 1000 < n := by omega
    go_enter Try.func15, Try.ntmps15
    go_wp2
    go_ret2
    exact ⟨rfl, rfl⟩

/-! ### Pop -/
set_option maxRecDepth 100000 in
theorem Pop_empty (w : World) {b r N came : Nat} (h : Ob w b r N came []) :
    Calls Try.prog 18 #[.pointer (some ⟨b, 0, none⟩)] w fun e w' => e = .returned (.tuple #[.agg #[.int .i64 0, .int .i64 0, .int .i64 0, .int .i64 0], .int .i64 16]) ∧ OnlyIn [] w w' := by
  go_enter Try.func18, Try.ntmps18
  go_wp2_with fail
  refine (none_no _ (h.alloc _)).mono ?_
  rintro e w' ⟨rfl, rfl⟩
  go_wp2_with fail
  refine (Len_any _ (h.alloc _)).mono ?_
  rintro e w1 ⟨rfl, k, rfl⟩
  go_wp2_with fail
  refine bodyPost_ret (v := .tuple #[.agg #[.int .i64 0, .int .i64 0, .int .i64 0, .int .i64 0], .int .i64 16]) (by simp [results, Try.results18, go_sem]) rfl ⟨rfl, ?_⟩
  (repeat (first | (with_reducible assumption) | (with_reducible exact OnlyIn.refl _ _) | (with_reducible refine OnlyIn.setCell ?_ (by first | simp | (simp; omega)) _) | (with_reducible refine OnlyIn.drewN ?_ _) | (with_reducible refine OnlyIn.drew ?_) | (with_reducible refine OnlyIn.alloc ?_ _)))

theorem Ob.popped {w : World} {b r N came : Nat} {l : List Item} {i : Item} (h : Ob w b r N came (i :: l)) :
    Ob (w.setCell ⟨b, 2, none⟩ (.int .i64 (((came - (i :: l).length : Nat) : Int) + 1))) b r N came l := by
  obtain ⟨rs, hrl, hrb, hrg⟩ := h.ring
  have hne := h.ne_
  have he := h.ever
  have hl := h.len
  simp only [List.length_cons] at he hl
  refine ⟨h.pos, h.le, by omega, by omega, h.small, ?_, rs, hrl, hrb.far (p := ⟨b, 2, none⟩) (Ne.symm hne) _, ?_⟩
  · have := h.blk.set 2 (.int .i64 (((came - (i :: l).length : Nat) : Int) + 1))
    have e : (((came - (i :: l).length : Nat) : Int) + 1) = ((came - l.length : Nat) : Int) := by simp only [List.length_cons]; omega
    rw [e] at this ⊢
    exact this
  · intro j hj
    have := hrg (j + 1) (by simp; omega)
    simp only [List.length_cons, List.getElem?_cons_succ] at this
    rw [← this]
    congr 2
    omega

set_option maxRecDepth 100000 in
theorem Pop_ok (w : World) {b r N came : Nat} {l : List Item} {i : Item} (h : Ob w b r N came (i :: l)) :
    Calls Try.prog 18 #[.pointer (some ⟨b, 0, none⟩)] w fun e w' => e = .returned (.tuple #[.agg #[.int .i64 i.f, .int .i64 i.g, .int .i64 i.t, .int .i64 i.y], .int .i64 0]) ∧ Ob w' b r N came l ∧ OnlyIn [b] w w' := by
  have hlen : ((((l.length : Nat) : Int) + 1) == 0) = false := by simp; omega
  have hl := h.small
  have he : came - (i :: l).length ≤ 1000000000 := by omega
  go_enter Try.func18, Try.ntmps18
  go_wp2_with fail
  have hz := Blk.new w 30 [.int .i64 0, .int .i64 0, .int .i64 0, .int .i64 0]
  refine (none_no _ (h.alloc _)).mono ?_
  rintro e w' ⟨rfl, rfl⟩
  go_wp2_with fail
  refine (Len_any _ (h.alloc _)).mono ?_
  rintro e w1 ⟨rfl, hw1⟩
  have ht1 : OnlyIn [] _ w1 := OnlyIn.of_draws hw1
  have ho1 := (h.alloc _).only ht1 (by simp) (by simp)
  have hz1 := hz.only ht1 (by simp)
  have ht := ((OnlyIn.refl [] w).alloc _).trans ht1
  clear hw1 hz ht1
  have c2 := ho1.blk.cell (i := 2) rfl
  go_wp2_with fail
  refine (place_any _ ho1 _ (by omega)).mono ?_
  rintro e w2 ⟨rfl, hw2⟩
  have ht2 : OnlyIn [] w1 w2 := OnlyIn.of_draws hw2
  have ho2 := ho1.only ht2 (by simp) (by simp)
  have hz2 := hz1.only ht2 (by simp)
  have ht := ht.trans ht2
  clear hw2 ht2 ho1 hz1 c2
  obtain ⟨rs, hrl, hrb, hrg⟩ := ho2.ring
  have hg0 := hrg 0 (by simp)
  rw [Nat.add_zero] at hg0
  have hpop := fun x (hx : Ob x b r N came (i :: l)) => Ob.popped hx
  have hc2 := ho2.blk.cell (i := 2) rfl
  generalize hgo : came - (i :: l).length = gone at *
  have hx : ∀ j, j < 4 → (rs.flatMap Item.cells)[gone % N * 4 + j]? = (i.cells)[j]? := fun j hj => by
    rw [flat_get Item.len rs _ j hj, hg0]
    rfl
  have q0 : w2.cell? ⟨r, gone % N * 4, none⟩ = _ := hrb.cell (hx 0 (by omega))
  have q1 := hrb.cell (hx 1 (by omega))
  have q2 := hrb.cell (hx 2 (by omega))
  have q3 := hrb.cell (hx 3 (by omega))
  have z0 := hz2.cell (i := 0) rfl
  have z1 := hz2.cell (i := 1) rfl
  have z2 := hz2.cell (i := 2) rfl
  have z3 := hz2.cell (i := 3) rfl
  have y0 := hz2.free 0
  have y1 := hz2.free 1
  have y2 := hz2.free 2
  have y3 := hz2.free 3
  have hne := hz2.ne_ ho2.blk (by decide)
  have hwb : w.heap.size < w2.heap.size := hz2.lt
  have hb2 := ho2.blk.free 2
  have hlt := ho2.blk.lt
  have HP := Lib.hid hpop
  clear hx hg0 hrl hrg hgo hpop
  go_wp2_with fail
  refine bodyPost_ret (results_row_tmp (t := 30) (b := w.heap.size) (cs := [.int .i64 i.f, .int .i64 i.g, .int .i64 i.t, .int .i64 i.y]) rfl _ rfl ?hb Try.underlying30 rfl (by kernel_rfl)) rfl ⟨rfl, ?_, ?_⟩
  case hb => exact (((((hz2.far (p := ⟨b, 2, none⟩) hne _).set 0 _).set 1 _).set 2 _).set 3 _).alloc _
  · have hbw := h.blk.lt
    have hrw : r < w.heap.size := by
      obtain ⟨_, _, hr, _⟩ := h.ring
      exact hr.lt
    refine Ob.only (S := [w.heap.size]) (HP.out _ ho2) ?_ (by simp; omega) (by simp; omega)
    (repeat (first | (with_reducible assumption) | (with_reducible exact OnlyIn.refl _ _) | (with_reducible refine OnlyIn.setCell ?_ (by first | simp | (simp; omega)) _) | (with_reducible refine OnlyIn.drewN ?_ _) | (with_reducible refine OnlyIn.drew ?_) | (with_reducible refine OnlyIn.alloc ?_ _)))
  · refine ((ht.mono (S' := [b]) (by simp))).then (S' := [b, w.heap.size]) ?_ (by simp)
    (repeat (first | (with_reducible assumption) | (with_reducible exact OnlyIn.refl _ _) | (with_reducible refine OnlyIn.setCell ?_ (by first | simp | (simp; omega)) _) | (with_reducible refine OnlyIn.drewN ?_ _) | (with_reducible refine OnlyIn.drew ?_) | (with_reducible refine OnlyIn.alloc ?_ _)))
