/-
  Package praxinoscoperef24: the document's outbox.
-/
import Derived.Test.YtcgbafdagckgcaaOutbox
import Derived.Test.YtcgbafdagckgcaaSlice
import Derived.Deep.RegionLaw
namespace Go.Proofs.Ytcgbafdagckgcaa
open Go.RowKit Go.Mine

theorem Try.infoItem3 : (Try.prog.info? 30).map (fun i => (i.zero, i.size, i.bytes)) = some (some (.agg #[.int .i64 0, .int .i64 0, .int .i64 0, .int .i64 0]), 4, 32) := by kernel_rfl

/-- The document's outbox at b: its list is v, blocks from 'base' on. -/
structure Rf (w : World) (b base : Nat) (v : Value) (N came : Nat) (l : List Item) : Prop where
  blk : Blk w b 90 [.int .i64 (N : Int), v, .int .i64 (came : Int)]
  sl : Sl w base 30 4 v l.length (l.flatMap Item.cells)
  small : came ≤ 1000000000
  most : N ≤ 1000
  len : l.length ≤ N

set_option maxRecDepth 100000 in
theorem Rf.only {S : List Nat} {w w' : World} {b base N came : Nat} {v : Value} {l : List Item} (h : Rf w b base v N came l) (ht : OnlyIn S w w') (hb : b ∉ S) (hv : ∀ g, v.ownBlock = some g → g ∉ S) : Rf w' b base v N came l :=
  ⟨h.blk.only ht hb, h.sl.only ht hv, h.small, h.most, h.len⟩

set_option maxRecDepth 100000 in
theorem RNew_ok (w : World) (n : Nat) (h1 : 1 ≤ n) (h2 : n ≤ 1000) :
    Calls Try.prog 21 #[.int .i64 (n : Int)] w fun e w' => e = .returned (.tuple #[.pointer (some ⟨w.heap.size, 0, none⟩), .int .i64 0]) ∧ Rf w' w.heap.size w.heap.size (.slice none 0 0) n 0 [] ∧ OnlyIn [] w w' := by
  go_enter Try.func21, Try.ntmps21
  go_wp2
  go_ret2
  exact ⟨rfl, ⟨Blk.new w 90 [.int .i64 (n : Int), .slice none 0 0, .int .i64 0], Sl.nil _ _ _ _, by omega, h2, by simp⟩, by (repeat (first | (with_reducible assumption) | (with_reducible exact OnlyIn.refl _ _) | (with_reducible refine OnlyIn.setCell ?_ (by first | simp | (simp; omega)) _) | (with_reducible refine OnlyIn.drewN ?_ _) | (with_reducible refine OnlyIn.drew ?_) | (with_reducible refine OnlyIn.alloc ?_ _)))⟩

set_option maxRecDepth 100000 in
theorem RNew_bad (w : World) (n : Int) (h : n < 1 ∨ 1000 < n) :
    Calls Try.prog 21 #[.int .i64 n] w fun e w' => e = .returned (.tuple #[.pointer none, .int .i64 3]) ∧ w = w' := by
  by_cases h1 : n < 1
  · go_enter Try.func21, Try.ntmps21
    go_wp2
    go_ret2
    exact ⟨rfl, rfl⟩
  · have h2 : 1000 < n := by omega
    go_enter Try.func21, Try.ntmps21
    go_wp2
    go_ret2
    exact ⟨rfl, rfl⟩

set_option maxRecDepth 100000 in
theorem RPush_full (w : World) {b base N came : Nat} {v : Value} {l : List Item} (h : Rf w b base v N came l) (hf : l.length = N) (i : Item) :
    Calls Try.prog 22 #[.pointer (some ⟨b, 0, none⟩), .agg #[.int .i64 i.f, .int .i64 i.g, .int .i64 i.t, .int .i64 i.y]] w fun e w' => e = .returned (.int .i64 15) ∧ OnlyIn [] w w' := by
  obtain ⟨A, c, rfl, hc⟩ := h.sl.val
  have c0 := h.blk.cell (i := 0) rfl
  have c1 := h.blk.cell (i := 1) rfl
  have hb := h.blk.lt
  rw [hf] at c1
  clear hf
  go_enter Try.func22, Try.ntmps22
  go_wp2_with fail
  go_quiet (fail)
  go_wp2
  go_ret
  exact ⟨rfl, by (repeat (first | (with_reducible assumption) | (with_reducible exact OnlyIn.refl _ _) | (with_reducible refine OnlyIn.setCell ?_ (by first | simp | (simp; omega)) _) | (with_reducible refine OnlyIn.drewN ?_ _) | (with_reducible refine OnlyIn.drew ?_) | (with_reducible refine OnlyIn.alloc ?_ _)))⟩

set_option maxRecDepth 100000 in
theorem RPush_room (w : World) {b base N came : Nat} {v : Value} {l : List Item} (h : Rf w b base v N came l) (hf : l.length < N) (hs : came < 1000000000) (hbase : base ≤ w.heap.size) (i : Item) :
    Calls Try.prog 22 #[.pointer (some ⟨b, 0, none⟩), .agg #[.int .i64 i.f, .int .i64 i.g, .int .i64 i.t, .int .i64 i.y]] w fun e w' => e = .returned (.int .i64 0) ∧ ∃ v', Rf w' b base v' N (came + 1) (l ++ [i]) ∧ OnlyIn (b :: v.ownBlock.toList) w w' ∧ (∀ g, v'.ownBlock = some g → v.ownBlock = some g ∨ w.heap.size ≤ g) := by
  have hmost := h.most
  have hlt : ¬ (N : Int) ≤ l.length := by omega
  obtain ⟨A, c, rfl, hc⟩ := h.sl.val
  have c0 := h.blk.cell (i := 0) rfl
  have c1 := h.blk.cell (i := 1) rfl
  have hb := h.blk.lt
  obtain ⟨i0, hi0, hz0, hz1, hz2⟩ := info_parts Try.infoItem3
  go_enter Try.func22, Try.ntmps22
  go_wp2_with fail
  go_quiet (fail)
  go_wp2_with fail
  generalize hw1 : World.drewN (World.alloc w _) _ = w1
  have ht1 : OnlyIn [] w w1 := by rw [← hw1]; exact ((OnlyIn.refl _ _).alloc _).drewN _
  have hi1 : Blk w1 w.heap.size 30 i.cells := by rw [← hw1]; exact (Blk.new w 30 i.cells).drewN _
  have h1 : Rf w1 b base (.slice A l.length c) N came l := h.only ht1 (by simp) (by simp)
  clear hw1 c0 c1
  have d0 := hi1.cell (i := 0) rfl
  have d1 := hi1.cell (i := 1) rfl
  have d2 := hi1.cell (i := 2) rfl
  have d3 := hi1.cell (i := 3) rfl
  have c1 := h1.blk.cell (i := 1) rfl
  have hbs : w.heap.size ≤ w1.heap.size := ht1.size
  have hne := h1.blk.ne_own h1.sl (by decide)
  have hb1 := h1.blk.lt
  go_region_law (refine step_append_sl rfl _ _ 42 rfl base 30 i0 _ 4 32 Try.underlying42 hi0 hz0 hz1 hz2 rfl (by decide) (.slice A l.length c) l.length (l.flatMap Item.cells) rfl ((h1.sl.alloc _).drew) (.slice (some ⟨w1.heap.size, 0, none⟩) 1 1) 1 i.cells rfl ((Rd.lit w1 i.cells 30 1 rfl).drew) (by simp [Item.cells, Value.oneCell']) (by simp only [maxLen]; omega) (by omega) (by simp; omega) ?_; intro v' w2 hs' hg' hat'; obtain ⟨A2, c2, rfl, hc2⟩ := hs'.val; have hb2 : Blk w2 b 90 _ := ((h1.blk.alloc _).drew).grown hg' hne; have e1 := hb2.cell (i := 1) rfl; have e2 := hb2.cell (i := 2) rfl; have f1 := hb2.free 1; have f2 := hb2.free 2)
  all_goals
    go_wp2
    go_ret
    have hs2 := (hs'.setCell (p := ⟨b, 1, none⟩) (hs'.ne_blk hb2 (by decide)) (.slice A2 (l.length + 1) c2)).setCell (p := ⟨b, 2, none⟩) (hs'.ne_blk hb2 (by decide)) (.int .i64 ((came : Int) + 1))
    refine ⟨rfl, _, ⟨(hb2.set 1 _).set 2 _, by simpa using hs2, by omega, hmost, by simp; omega⟩, ?_, fun g hg => ?_⟩
    · have ht2 : OnlyIn (b :: (Value.slice A l.length c).ownBlock.toList) w1 w2 := ((((OnlyIn.refl _ _).alloc _).drew).grown hg' (fun k hk => .inl (by simp [hk])))
      exact (ht1.mono (S' := b :: (Value.slice A l.length c).ownBlock.toList) (by simp)).trans ((ht2.setCell (.inl (by simp)) _).setCell (.inl (by simp)) _)
    · rcases hat' g hg with h2 | h2
      · exact .inl h2
      · simp at h2
        exact .inr (by omega)

set_option maxRecDepth 100000 in
theorem RPop_empty (w : World) {b base N came : Nat} {v : Value} (h : Rf w b base v N came []) :
    Calls Try.prog 23 #[.pointer (some ⟨b, 0, none⟩)] w fun e w' => e = .returned (.tuple #[.agg #[.int .i64 0, .int .i64 0, .int .i64 0, .int .i64 0], .int .i64 16]) ∧ OnlyIn [] w w' := by
  obtain ⟨A, c, rfl, hc⟩ := h.sl.val
  have c1 := h.blk.cell (i := 1) rfl
  have hb := h.blk.lt
  go_enter Try.func23, Try.ntmps23
  go_wp2
  refine bodyPost_ret (v := .tuple #[.agg #[.int .i64 0, .int .i64 0, .int .i64 0, .int .i64 0], .int .i64 16]) (by simp [results, Try.results23, go_sem]) rfl ⟨rfl, ?_⟩
  (repeat (first | (with_reducible assumption) | (with_reducible exact OnlyIn.refl _ _) | (with_reducible refine OnlyIn.setCell ?_ (by first | simp | (simp; omega)) _) | (with_reducible refine OnlyIn.drewN ?_ _) | (with_reducible refine OnlyIn.drew ?_) | (with_reducible refine OnlyIn.alloc ?_ _)))

set_option maxRecDepth 100000 in
theorem RPop_ok (w : World) {b base N came : Nat} {v : Value} {l : List Item} {i : Item} (hR : Rf w b base v N came (i :: l)) :
    Calls Try.prog 23 #[.pointer (some ⟨b, 0, none⟩)] w fun e w' => e = .returned (.tuple #[.agg #[.int .i64 i.f, .int .i64 i.g, .int .i64 i.t, .int .i64 i.y], .int .i64 0]) ∧ ∃ v', Rf w' b base v' N came l ∧ OnlyIn [b] w w' ∧ v'.ownBlock = v.ownBlock := by
  obtain ⟨g, off, cap, rfl, hg1, hg2, hcap⟩ := hR.sl.form (by simp)
  have c1 := hR.blk.cell (i := 1) rfl
  have hb := hR.blk.lt
  have hc0 := fun j u (hu : ((i :: l).flatMap Item.cells)[j]? = some u) => hR.sl.cell_at rfl hu
  have q0 : w.cell? ⟨g, off, none⟩ = _ := hc0 0 _ rfl
  have q1 := hc0 1 _ rfl
  have q2 := hc0 2 _ rfl
  have q3 := hc0 3 _ rfl
  have f1 := hR.blk.free 1
  have hcl : l.length + 1 ≤ cap := by simpa using hcap
  have hgb : g ≠ b := by
    rintro rfl
    exact hR.sl.ne_blk hR.blk (by decide) rfl
  have hln : l.length ≤ N := by have := hR.len; simp at this; omega
  clear hc0 hcap
  go_enter Try.func23, Try.ntmps23
  go_wp2
  all_goals refine bodyPost_ret (v := .tuple #[.agg #[.int .i64 i.f, .int .i64 i.g, .int .i64 i.t, .int .i64 i.y], .int .i64 0]) (by simp [results, Try.results23, go_sem]) rfl ⟨rfl, ?_⟩
  · have hl0 : l = [] := List.eq_nil_of_length_eq_zero (by omega)
    subst hl0
    have hs := hR.sl.empty_at
    exact ⟨_, ⟨((hR.blk.set 1 _).alloc _).alloc _, ((hs.setCell (p := ⟨b, 1, none⟩) (by simpa [Value.ownBlock] using hgb) _).alloc _).alloc _, hR.small, hR.most, by simp⟩, by (repeat (first | (with_reducible assumption) | (with_reducible exact OnlyIn.refl _ _) | (with_reducible refine OnlyIn.setCell ?_ (by first | simp | (simp; omega)) _) | (with_reducible refine OnlyIn.drewN ?_ _) | (with_reducible refine OnlyIn.drew ?_) | (with_reducible refine OnlyIn.alloc ?_ _))), rfl⟩
  · have hs : Sl w base 30 4 (.slice (some ⟨g, off + 4, none⟩) l.length (cap - 1)) l.length (l.flatMap Item.cells) := Sl.tail (x := i.cells) hR.sl rfl
    exact ⟨_, ⟨((hR.blk.set 1 _).alloc _).alloc _, ((hs.setCell (p := ⟨b, 1, none⟩) (by simpa [Value.ownBlock] using hgb) _).alloc _).alloc _, hR.small, hR.most, hln⟩, by (repeat (first | (with_reducible assumption) | (with_reducible exact OnlyIn.refl _ _) | (with_reducible refine OnlyIn.setCell ?_ (by first | simp | (simp; omega)) _) | (with_reducible refine OnlyIn.drewN ?_ _) | (with_reducible refine OnlyIn.drew ?_) | (with_reducible refine OnlyIn.alloc ?_ _))), rfl⟩

set_option maxRecDepth 100000 in
theorem RClear (w : World) {b base N came : Nat} {v : Value} {l : List Item} (h : Rf w b base v N came l) :
    Calls Try.prog 26 #[.pointer (some ⟨b, 0, none⟩)] w fun e w' => e = .returned v ∧ Rf w' b base (.slice none 0 0) N came [] ∧ Sl w' base 30 4 v l.length (l.flatMap Item.cells) ∧ OnlyIn [b] w w' := by
  have hsl := h.sl
  obtain ⟨A, c, rfl, hc⟩ := h.sl.val
  have c1 := h.blk.cell (i := 1) rfl
  have f1 := h.blk.free 1
  go_enter Try.func26, Try.ntmps26
  go_wp2
  go_ret
  refine ⟨rfl, ⟨h.blk.set 1 (.slice none 0 0), Sl.nil _ _ _ _, h.small, h.most, by simp⟩, hsl.setCell (hsl.ne_blk h.blk (by decide)) _, by (repeat (first | (with_reducible assumption) | (with_reducible exact OnlyIn.refl _ _) | (with_reducible refine OnlyIn.setCell ?_ (by first | simp | (simp; omega)) _) | (with_reducible refine OnlyIn.drewN ?_ _) | (with_reducible refine OnlyIn.drew ?_) | (with_reducible refine OnlyIn.alloc ?_ _)))⟩
