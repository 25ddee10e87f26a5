/-
  Package pattern: the tree of all codes.
-/
import Derived.Test.YteblkjmeaojegaaDoorPatFields
import Derived.Test.YteblkjmeaojegaaDoorPatTwo
import Derived.Test.YteblkjmeaojegaaDoorPrefixMake
import Derived.Test.YteblkjmeaojegaaDoorRefMake03
namespace Go.Mine
open Go.RowKit
theorem calls_arg {P : Program} {f : FuncId} {a b : Value} {w : World} {R : Ending → World → Prop} (h : a = b) (hc : Calls P f #[b] w R) : Calls P f #[a] w R := by subst h; exact hc
end Go.Mine
namespace Go.Proofs.YteblkjmeaojegaaDoor
open Go.RowKit Go.Mine Go.Shelf

attribute [local go_sem] Oper.semAt_some

set_option maxRecDepth 100000 in
set_option maxHeartbeats 4000000 in
theorem ptree_any (w : World) (hsp : Spaced w) : Calls Tryd.prog 27 #[] w fun e w' => ∃ b v mb, e = .returned (.pointer (some ⟨b, 0, none⟩)) ∧ Tr w' w.heap.size b v mb 63 PT (told (pcodes.zip pnums)) 63 ∧ OnlyIn [] w w' := by
  obtain ⟨i0, hi0, hz0, hz1, hz2⟩ := info_parts Tryd.infoStr
  obtain ⟨j0, hj0, hy0, hy1, hy2⟩ := info_parts Tryd.infoIC
  (refine (callsIn_wide (n := 0)).1 ?_; refine callsIn_of_wp_marks Tryd.func27 rfl trivial ?_ rfl; simp only [Tryd.ntmps27, List.size_toArray, List.length_cons, List.length_nil, Nat.reduceAdd, Nat.reduceSub, Array.replicate_succ, Array.replicate_zero, List.push_toArray, List.append_toArray, List.nil_append, List.cons_append])
  gi_wp2_with fail
  generalize hw2 : World.alloc (World.alloc _ _) _ = w2
  obtain ⟨hO, hsz⟩ := (Keep.start [] w).more2 hw2
  clear hw2
  have hbs : Blk w2 w.heap.size 42 [.slice none 0 0] := hO.blk 1 rfl
  have hbi : Blk w2 (w.heap.size + 1) 39 [.slice none 0 0] := hO.blk 0 rfl
  have hR3 := hbs.alloc (.cells #[.string (str ptext)] 9)
  have hI3 := hbi.alloc (.cells #[.string (str ptext)] 9)
  have hX3 := Blk.new w2 9 [.string (str ptext)]
  have hO3 := hO.only.alloc (.cells #[.string (str ptext)] 9)
  refine ⟨trivial, rfl, callsIn_wide.2 (Go.Mine.calls_arg (b := .string (str ptext)) (by kernel_rfl) ((fields_any w2 (str ptext)).mono ?_))⟩
  rintro e w' ⟨rfl, rfl⟩
  have hX3' : Blk (w2.alloc (.cells #[.string (str ptext)] 9)) w2.heap.size 9 [.string (str ptext)] := hX3
  clear hX3
  have hszz : (w2.alloc (.cells #[.string (str ptext)] 9)).heap.size = w2.heap.size + 1 := World.size_alloc _ _
  obtain ⟨X, hX⟩ : ∃ X, w.heap.size + 1 + 1 = X := ⟨_, rfl⟩
  rw [hsz, hX] at hX3' hszz
  rw [hsz]
  generalize w2.alloc (.cells #[.string (str ptext)] 9) = w3 at hR3 hI3 hX3' hO3 hszz ⊢
  clear hbs hbi hO hsz w2
  obtain ⟨w2, hw2⟩ : ∃ w2, w2 = w3 := ⟨_, rfl⟩
  rw [← hw2] at hR3 hI3 hX3' hO3 hszz ⊢
  clear hw2 w3
  have hbs := hR3
  have hbi := hI3
  clear hR3 hI3
  gi_wp2_with fail
  try rw [hX]
  refine wpIn_range2 (gf := 46) (lb := #[.pointer (some ⟨X, 0, none⟩)]) rfl (enters_of Tryd.func46 (by kernel_rfl) rfl) ?_
  intro rc hround
  obtain ⟨H, hH⟩ : ∃ H, w.heap.size = H := ⟨_, rfl⟩
  rw [hH] at hbs hbi hX
  have hH2 : H + 1 < w2.heap.size := by omega
  have hXH : H + 1 < X := by omega
  clear hszz
  refine (fields1_any (w2.heap.size + 1) X ptext pcodes (by rw [ptext_len]; decide) ptext_fields
    (fun k W => InLoop w2 W (.loop (rc .ready none)) ∧ OnlyIn [] w W ∧ Blk W X 9 [.string (str ptext)] ∧ ∃ v u, Blk W H 42 [v] ∧ Blk W (H + 1) 39 [u] ∧ Sl W (X + 1) 9 1 v k (txtCells (pcodes.take k)) ∧ Sl W (X + 1) 3 1 u k (intCells (pnums.take k)))
    ?hS ?hB ?hY _ ?h0).mono ?_
  case hS =>
    rintro k W W' ht ⟨h1, h2, hx, v, u, h3, h4, h5, h6⟩
    exact ⟨h1.only ht (by simp) (by simp), h2.trans ht, hx.only ht (by simp), v, u, h3.only ht (by simp), h4.only ht (by simp), h5.only ht (by simp), h6.only ht (by simp)⟩
  case hB => exact fun k W h => ⟨h.2.2.1, hsp.only h.2.1⟩
  case h0 => exact ⟨InLoop.start _ _, (hO3.alloc _).alloc _, (hX3'.alloc _).alloc _, _, _, (hbs.alloc _).alloc _, (hbi.alloc _).alloc _, Sl.nil _ _ _ _, Sl.nil _ _ _ _⟩
  case hY =>
    rintro k Wb hk ⟨hI1, ht1, hb, v, u, hv1, hu1, hs11, hs21⟩
    rw [pcodes_len] at hk
    have hwk : IntKind.i64.wrap ((k : Int) + 1) = (k : Int) + 1 := by rw [IntKind.wrap_i64]; omega
    have hpc : pcodes.getD k [] = pc k := rfl
    rw [hpc]
    refine hround _ Wb _ rfl hI1.rec_ ?_
    gi_wp2_with fail
    obtain ⟨A0, q0, rfl, hq0⟩ := hs11.val
    have hXne : X ≠ w2.heap.size + 1 := by
      rintro rfl
      have := hI1.rec_
      rw [hb] at this
      cases this
    have hXl : H + 1 < X := hXH
    refine ⟨hI1.rec_, ?_⟩
    have hp : OnlyIn [w2.heap.size + 1] Wb (Wb.putObj (w2.heap.size + 1) (.loop (rc .busy none))) := (OnlyIn.refl _ _).putObj (.inl (by simp)) _
    have hK : KBt 42 39 9 3 w w2 (Wb.putObj (w2.heap.size + 1) (.loop (rc .busy none))) (.loop (rc .busy none)) H (X + 1) (X, 9, [.string (str ptext)]) (.slice A0 k q0) u (.slice A0 k q0) u k k (txtCells (pcodes.take k)) (intCells (pnums.take k)) :=
      ⟨hI1.put _, ht1.then hp (fun j hj => .inr (by simp at hj; omega)), hv1.only hp (by simp; omega), hu1.only hp (by simp; omega), hb.only hp (by simpa using hXne),
        hs11.only hp (fun g hg hm => by simp at hm; subst hm; exact hs11.ne_obj hI1.rec_ hg), hs21.only hp (fun g hg hm => by simp at hm; subst hm; exact hs21.ne_obj hI1.rec_ hg), ⟨by decide, by decide, by decide, by decide, by decide, by simp, by omega⟩, by have := hI1.rec_; have := (Array.getElem?_eq_some_iff.1 this).1; simp; omega⟩
    generalize Wb.putObj _ _ = Wc at hK ⊢
    clear hb hI1 ht1 hv1 hu1 hs11 hs21 hp hround hX3' hbs hbi hO3
    have hend : ∀ W5 v5 u5, KBt 42 39 9 3 w w2 W5 (.loop (rc .busy none)) H (X + 1) (X, 9, [.string (str ptext)]) (.slice A0 k q0) u v5 u5 (k + 1) (k + 1) (txtCells (pcodes.take k) ++ [.string (str (pc k))]) (intCells (pnums.take k) ++ [.int .i64 ((k : Int) + 1)]) →
        ((W5.setCell ⟨H, 0, none⟩ v5).setCell ⟨H + 1, 0, none⟩ u5).heap[w2.heap.size + 1]? = some (.loop (rc .busy none)) ∧ (InLoop w2 (((W5.setCell ⟨H, 0, none⟩ v5).setCell ⟨H + 1, 0, none⟩ u5).putObj (w2.heap.size + 1) (.loop (rc .ready none))) (.loop (rc .ready none)) ∧
          OnlyIn [] w (((W5.setCell ⟨H, 0, none⟩ v5).setCell ⟨H + 1, 0, none⟩ u5).putObj (w2.heap.size + 1) (.loop (rc .ready none))) ∧ Blk (((W5.setCell ⟨H, 0, none⟩ v5).setCell ⟨H + 1, 0, none⟩ u5).putObj (w2.heap.size + 1) (.loop (rc .ready none))) X 9 [.string (str ptext)] ∧
          ∃ z, Blk (((W5.setCell ⟨H, 0, none⟩ v5).setCell ⟨H + 1, 0, none⟩ u5).putObj (w2.heap.size + 1) (.loop (rc .ready none))) H 42 [z] ∧ ∃ x, Blk (((W5.setCell ⟨H, 0, none⟩ v5).setCell ⟨H + 1, 0, none⟩ u5).putObj (w2.heap.size + 1) (.loop (rc .ready none))) (H + 1) 39 [x] ∧
            Sl (((W5.setCell ⟨H, 0, none⟩ v5).setCell ⟨H + 1, 0, none⟩ u5).putObj (w2.heap.size + 1) (.loop (rc .ready none))) (X + 1) 9 1 z (k + 1) (txtCells (pcodes.take (k + 1))) ∧
            Sl (((W5.setCell ⟨H, 0, none⟩ v5).setCell ⟨H + 1, 0, none⟩ u5).putObj (w2.heap.size + 1) (.loop (rc .ready none))) (X + 1) 3 1 x (k + 1) (intCells (pnums.take (k + 1)))) := by
      intro W5 v5 u5 h5
      rw [(ptake hk).1, (ptake hk).2]
      have i1 := h5.inl.setCell h5.bs 0 v5
      have e1 := h5.bi.far (p := ⟨H, 0, none⟩) (by simp) v5
      have i2 := i1.setCell e1 0 u5
      have d2 := (h5.bs.set 0 v5).far (p := ⟨H + 1, 0, none⟩) (by simp) u5
      have e2 := e1.set 0 u5
      have x2 := (h5.bx.far (p := ⟨H, 0, none⟩) (by simp; omega) v5).far (p := ⟨H + 1, 0, none⟩) (by simp; omega) u5
      have r1 := (h5.s1.setCell (p := ⟨H, 0, none⟩) (h5.s1.ne_blk h5.bs (by decide)) v5).setCell (p := ⟨H + 1, 0, none⟩) (h5.s1.ne_blk h5.bi (by decide)) u5
      have r2 := (h5.s2.setCell (p := ⟨H, 0, none⟩) (h5.s2.ne_blk h5.bs (by decide)) v5).setCell (p := ⟨H + 1, 0, none⟩) (h5.s2.ne_blk h5.bi (by decide)) u5
      have o2 := (h5.on.setCell (p := ⟨H, 0, none⟩) (.inr (by simp; omega)) v5).setCell (p := ⟨H + 1, 0, none⟩) (.inr (by simp; omega)) u5
      generalize World.setCell (World.setCell _ _ _) _ _ = W6 at *
      have hp : OnlyIn [w2.heap.size + 1] W6 (W6.putObj (w2.heap.size + 1) (.loop (rc .ready none))) := (OnlyIn.refl _ _).putObj (.inl (by simp)) _
      exact ⟨i2.rec_, i2.put _, o2.then hp (fun j hj => .inr (by simp at hj; omega)), x2.only hp (by simpa using hXne), v5, d2.only hp (by simp; omega), u5, e2.only hp (by simp; omega),
        r1.only hp (fun g hg hm => by simp at hm; subst hm; exact r1.ne_obj i2.rec_ hg), r2.only hp (fun g hg hm => by simp at hm; subst hm; exact r2.ne_obj i2.rec_ hg)⟩
    have HEND := Lib.hid hend
    clear hend
    gi_wp2_with fail
    refine Go.Mine.wpIn_region_of_any (Go.Mine.Open.inRound _) Tryd.mixed (by kernel_rfl) (by rintro ⟨_, _, h⟩; exact h.elim) (Go.Mine.wpAny_of_K (J := (fun t W => (t = 0 → Blk W H 42 [.slice A0 k q0]) ∧ (t = 1 → Blk W (H + 1) 39 [u]) ∧ Blk W X 9 [.string (str ptext)])) (zs := fun t => if t = 0 then [10, 11] else if t = 1 then [11] else []) _ _ _ _ ?_)
    have hk0 := hK.drew
    refine Go.Mine.wpAnyK_sure 0 _ (i := 0) rfl (by kernel_rfl) (by kernel_rfl) (by kernel_rfl) (by kernel_rfl) (fun _ _ _ h => h) ⟨fun _ => hk0.bs, fun _ => hk0.bi, hk0.bx⟩ (by first | rfl | go_simp) (fun W hW => by (have h1 := (hW.1 rfl).cell (i := 0) rfl; have h3 := hW.2.2.cell (i := 0) rfl; go_simp; exact ⟨rfl, rfl⟩)) ?_
    refine Go.Mine.wpAnyK_sure 2 _ (i := 1) rfl (by kernel_rfl) (by kernel_rfl) (by kernel_rfl) (by kernel_rfl) (fun _ _ _ h => h) ⟨fun _ => hk0.bs, fun _ => hk0.bi, hk0.bx⟩ (by first | rfl | go_simp) (fun W hW => by (have h3 := hW.2.2.cell (i := 0) rfl; go_simp; exact ⟨rfl, rfl⟩)) ?_
    refine Go.Mine.wpAnyK_sure 1 _ (i := 4) rfl (by kernel_rfl) (by kernel_rfl) (by kernel_rfl) (by kernel_rfl) (fun _ _ _ h => h) ⟨fun _ => hk0.bs, fun _ => hk0.bi, hk0.bx⟩ (by first | rfl | go_simp) (fun W hW => by (have h2 := (hW.2.1 rfl).cell (i := 0) rfl; have h3 := hW.2.2.cell (i := 0) rfl; go_simp; exact ⟨rfl, rfl⟩)) ?_
    refine Go.Mine.wpAnyK_sure 0 _ (i := 5) rfl (by kernel_rfl) (by kernel_rfl) (by kernel_rfl) (by kernel_rfl) (fun _ _ _ h => h) ⟨fun _ => hk0.bs, fun _ => hk0.bi, hk0.bx⟩ (by first | rfl | go_simp) (fun W hW => by (have h1 := (hW.1 rfl).cell (i := 0) rfl; have h3 := hW.2.2.cell (i := 0) rfl; go_simp; exact ⟨rfl, rfl⟩)) ?_
    refine Go.Mine.wpAnyK_sure 2 _ (i := 6) rfl (by kernel_rfl) (by kernel_rfl) (by kernel_rfl) (by kernel_rfl) (fun _ _ _ h => h) ⟨fun _ => hk0.bs, fun _ => hk0.bi, hk0.bx⟩ (by first | rfl | go_simp) (fun W hW => by (have h3 := hW.2.2.cell (i := 0) rfl; go_simp; exact ⟨rfl, rfl⟩)) ?_
    refine Go.Mine.wpAnyK_sure 2 _ (i := 7) rfl (by kernel_rfl) (by kernel_rfl) (by kernel_rfl) (by kernel_rfl) (fun _ _ _ h => h) ⟨fun _ => hk0.bs, fun _ => hk0.bi, hk0.bx⟩ (by first | rfl | go_simp) (fun W hW => by (have h3 := hW.2.2.cell (i := 0) rfl; go_simp; exact ⟨rfl, rfl⟩)) ?_
    refine Go.Mine.wpAnyK_ready (rs := [2, 8]) (by kernel_rfl) (by simp) ?_
    refine Go.Mine.AllK.cons rfl (fun K hKK => ?_) (Go.Mine.AllK.cons rfl (fun K hKK => ?_) Go.Mine.AllK.nil)
    · go_simp
      have hk1 := hk0.alloc (.cells #[.string (str (pc k))] 9)
      have ga1 := Blk.new Wc.drew 9 [.string (str (pc k))]
      refine hKK _ _ (fun _ _ _ => ⟨fun _ => hk1.bs, fun _ => hk1.bi, hk1.bx⟩) ?_
      clear hKK K
      refine Go.Mine.wpAnyK_ready (rs := [3, 8]) (by kernel_rfl) (by simp) ?_
      refine Go.Mine.AllK.cons rfl (fun K hKK => ?_) (Go.Mine.AllK.cons rfl (fun K hKK => ?_) Go.Mine.AllK.nil)
      · refine step_append_sl rfl _ _ 42 rfl (X + 1) 9 i0 _ 1 16 Tryd.underlying42 hi0 hz0 hz1 hz2 rfl (by decide) (.slice A0 k q0) _ _ rfl hk1.s1 _ 1 _ rfl (Go.Mine.Rd.one ga1) (by simp [Value.oneCell']) (by simp only [maxLen]; omega) (by omega) hk1.sz ?_
        intro v2 w2 hs2 hg2 hat2
        have hk2 := hk1.app1 hs2 hg2
        refine hKK _ _ (fun _ _ _ => ⟨fun _ => hk2.bs, fun _ => hk2.bi, hk2.bx⟩) ?_
        clear hKK K
        refine Go.Mine.wpAnyK_ready (rs := [8]) (by kernel_rfl) (by simp) ?_
        refine Go.Mine.AllK.cons rfl (fun K hKK => ?_) Go.Mine.AllK.nil
        · go_simp
          have hk3 := hk2.alloc (.cells #[.int .i64 ((k : Int) + 1)] 3)
          have gb3 := Blk.new w2 3 [.int .i64 ((k : Int) + 1)]
          refine hKK _ _ (fun _ _ _ => ⟨fun _ => hk3.bs, fun _ => hk3.bi, hk3.bx⟩) ?_
          clear hKK K
          refine Go.Mine.wpAnyK_ready (rs := [9]) (by kernel_rfl) (by simp) ?_
          refine Go.Mine.AllK.cons rfl (fun K hKK => ?_) Go.Mine.AllK.nil
          · refine step_append_sl rfl _ _ 39 rfl (X + 1) 3 j0 _ 1 8 Tryd.underlying39 hj0 hy0 hy1 hy2 rfl (by decide) u _ _ rfl hk3.s2 _ 1 _ rfl (Go.Mine.Rd.one gb3) (by simp [Value.oneCell']) (by simp only [maxLen]; omega) (by omega) hk3.sz ?_
            intro v4 w4 hs4 hg4 hat4
            have hk4 := hk3.app2 hs4 hg4
            refine hKK _ _ (fun _ _ _ => ⟨fun _ => hk4.bs, fun _ => hk4.bi, hk4.bx⟩) ?_
            clear hKK K
            obtain ⟨A1, q1, rfl, _⟩ := hk4.s1.val
            obtain ⟨A2, q2, rfl, _⟩ := hk4.s2.val
            have c0 := hk4.bs.cell (i := 0) rfl
            have f0 := hk4.bs.free 0
            have c1 := hk4.bi.cell (i := 0) rfl
            have f1 := hk4.bi.free 0
            have b9 := hk4.bx
            have i9 := hk4.bi.far (p := ⟨H, 0, none⟩) (by simp) (.slice A1 (k + 1) q1)
            have x9 := hk4.bx.far (p := ⟨H, 0, none⟩) (by simp; omega) (.slice A1 (k + 1) q1)
            refine Go.Mine.wpAnyK_ready (rs := [10]) (by kernel_rfl) (by simp) ?_
            refine Go.Mine.AllK.cons rfl (fun K hKK => ?_) Go.Mine.AllK.nil
            go_simp
            refine hKK _ _ (fun t ht _ => ⟨fun h0 => (by subst h0; cases ht), fun _ => i9, x9⟩) ?_
            clear hKK K
            have x10 := x9.far (p := ⟨H + 1, 0, none⟩) (by simp; omega) (.slice A2 (k + 1) q2)
            refine Go.Mine.wpAnyK_ready (rs := [11]) (by kernel_rfl) (by simp) ?_
            refine Go.Mine.AllK.cons rfl (fun K hKK => ?_) Go.Mine.AllK.nil
            go_simp
            refine hKK _ _ (fun t ht _ => ⟨fun h0 => (by subst h0; cases ht), fun h0 => (by subst h0; cases ht), x10⟩) ?_
            clear hKK K
            refine Go.Mine.wpAnyK_done (by kernel_rfl) ?_ _
            gi_wp2_with fail
            have hz := HEND.out _ _ _ hk4
            exact ⟨hz.1, rfl, hz.2⟩
      · go_simp
        have hk2 := hk1.alloc (.cells #[.int .i64 ((k : Int) + 1)] 3)
        have ga1x := ga1.alloc (.cells #[.int .i64 ((k : Int) + 1)] 3)
        have gb2 := Blk.new (Wc.drew.alloc (.cells #[.string (str (pc k))] 9)) 3 [.int .i64 ((k : Int) + 1)]
        simp only [World.size_alloc] at gb2
        refine hKK _ _ (fun _ _ _ => ⟨fun _ => hk2.bs, fun _ => hk2.bi, hk2.bx⟩) ?_
        clear hKK K
        refine Go.Mine.wpAnyK_ready (rs := [3]) (by kernel_rfl) (by simp) ?_
        refine Go.Mine.AllK.cons rfl (fun K hKK => ?_) Go.Mine.AllK.nil
        · refine step_append_sl rfl _ _ 42 rfl (X + 1) 9 i0 _ 1 16 Tryd.underlying42 hi0 hz0 hz1 hz2 rfl (by decide) (.slice A0 k q0) _ _ rfl hk2.s1 _ 1 _ rfl (Go.Mine.Rd.one ga1x) (by simp [Value.oneCell']) (by simp only [maxLen]; omega) (by omega) hk2.sz ?_
          intro v3 w3 hs3 hg3 hat3
          have hk3 := hk2.app1 hs3 hg3
          have gb2x := hk2.litB gb2 hg3
          refine hKK _ _ (fun _ _ _ => ⟨fun _ => hk3.bs, fun _ => hk3.bi, hk3.bx⟩) ?_
          clear hKK K
          refine Go.Mine.wpAnyK_ready (rs := [9]) (by kernel_rfl) (by simp) ?_
          refine Go.Mine.AllK.cons rfl (fun K hKK => ?_) Go.Mine.AllK.nil
          · refine step_append_sl rfl _ _ 39 rfl (X + 1) 3 j0 _ 1 8 Tryd.underlying39 hj0 hy0 hy1 hy2 rfl (by decide) u _ _ rfl hk3.s2 _ 1 _ rfl (Go.Mine.Rd.one gb2x) (by simp [Value.oneCell']) (by simp only [maxLen]; omega) (by omega) hk3.sz ?_
            intro v4 w4 hs4 hg4 hat4
            have hk4 := hk3.app2 hs4 hg4
            refine hKK _ _ (fun _ _ _ => ⟨fun _ => hk4.bs, fun _ => hk4.bi, hk4.bx⟩) ?_
            clear hKK K
            obtain ⟨A1, q1, rfl, _⟩ := hk4.s1.val
            obtain ⟨A2, q2, rfl, _⟩ := hk4.s2.val
            have c0 := hk4.bs.cell (i := 0) rfl
            have f0 := hk4.bs.free 0
            have c1 := hk4.bi.cell (i := 0) rfl
            have f1 := hk4.bi.free 0
            have b9 := hk4.bx
            have i9 := hk4.bi.far (p := ⟨H, 0, none⟩) (by simp) (.slice A1 (k + 1) q1)
            have x9 := hk4.bx.far (p := ⟨H, 0, none⟩) (by simp; omega) (.slice A1 (k + 1) q1)
            refine Go.Mine.wpAnyK_ready (rs := [10]) (by kernel_rfl) (by simp) ?_
            refine Go.Mine.AllK.cons rfl (fun K hKK => ?_) Go.Mine.AllK.nil
            go_simp
            refine hKK _ _ (fun t ht _ => ⟨fun h0 => (by subst h0; cases ht), fun _ => i9, x9⟩) ?_
            clear hKK K
            have x10 := x9.far (p := ⟨H + 1, 0, none⟩) (by simp; omega) (.slice A2 (k + 1) q2)
            refine Go.Mine.wpAnyK_ready (rs := [11]) (by kernel_rfl) (by simp) ?_
            refine Go.Mine.AllK.cons rfl (fun K hKK => ?_) Go.Mine.AllK.nil
            go_simp
            refine hKK _ _ (fun t ht _ => ⟨fun h0 => (by subst h0; cases ht), fun h0 => (by subst h0; cases ht), x10⟩) ?_
            clear hKK K
            refine Go.Mine.wpAnyK_done (by kernel_rfl) ?_ _
            gi_wp2_with fail
            have hz := HEND.out _ _ _ hk4
            exact ⟨hz.1, rfl, hz.2⟩
    · go_simp
      have hk1 := hk0.alloc (.cells #[.int .i64 ((k : Int) + 1)] 3)
      have gb1 := Blk.new Wc.drew 3 [.int .i64 ((k : Int) + 1)]
      refine hKK _ _ (fun _ _ _ => ⟨fun _ => hk1.bs, fun _ => hk1.bi, hk1.bx⟩) ?_
      clear hKK K
      refine Go.Mine.wpAnyK_ready (rs := [2]) (by kernel_rfl) (by simp) ?_
      refine Go.Mine.AllK.cons rfl (fun K hKK => ?_) Go.Mine.AllK.nil
      · go_simp
        have hk2 := hk1.alloc (.cells #[.string (str (pc k))] 9)
        have gb1x := gb1.alloc (.cells #[.string (str (pc k))] 9)
        have ga2 := Blk.new (Wc.drew.alloc (.cells #[.int .i64 ((k : Int) + 1)] 3)) 9 [.string (str (pc k))]
        simp only [World.size_alloc] at ga2
        refine hKK _ _ (fun _ _ _ => ⟨fun _ => hk2.bs, fun _ => hk2.bi, hk2.bx⟩) ?_
        clear hKK K
        refine Go.Mine.wpAnyK_ready (rs := [3]) (by kernel_rfl) (by simp) ?_
        refine Go.Mine.AllK.cons rfl (fun K hKK => ?_) Go.Mine.AllK.nil
        · refine step_append_sl rfl _ _ 42 rfl (X + 1) 9 i0 _ 1 16 Tryd.underlying42 hi0 hz0 hz1 hz2 rfl (by decide) (.slice A0 k q0) _ _ rfl hk2.s1 _ 1 _ rfl (Go.Mine.Rd.one ga2) (by simp [Value.oneCell']) (by simp only [maxLen]; omega) (by omega) hk2.sz ?_
          intro v3 w3 hs3 hg3 hat3
          have hk3 := hk2.app1 hs3 hg3
          have gb1xx := hk2.litB gb1x hg3
          refine hKK _ _ (fun _ _ _ => ⟨fun _ => hk3.bs, fun _ => hk3.bi, hk3.bx⟩) ?_
          clear hKK K
          refine Go.Mine.wpAnyK_ready (rs := [9]) (by kernel_rfl) (by simp) ?_
          refine Go.Mine.AllK.cons rfl (fun K hKK => ?_) Go.Mine.AllK.nil
          · refine step_append_sl rfl _ _ 39 rfl (X + 1) 3 j0 _ 1 8 Tryd.underlying39 hj0 hy0 hy1 hy2 rfl (by decide) u _ _ rfl hk3.s2 _ 1 _ rfl (Go.Mine.Rd.one gb1xx) (by simp [Value.oneCell']) (by simp only [maxLen]; omega) (by omega) hk3.sz ?_
            intro v4 w4 hs4 hg4 hat4
            have hk4 := hk3.app2 hs4 hg4
            refine hKK _ _ (fun _ _ _ => ⟨fun _ => hk4.bs, fun _ => hk4.bi, hk4.bx⟩) ?_
            clear hKK K
            obtain ⟨A1, q1, rfl, _⟩ := hk4.s1.val
            obtain ⟨A2, q2, rfl, _⟩ := hk4.s2.val
            have c0 := hk4.bs.cell (i := 0) rfl
            have f0 := hk4.bs.free 0
            have c1 := hk4.bi.cell (i := 0) rfl
            have f1 := hk4.bi.free 0
            have b9 := hk4.bx
            have i9 := hk4.bi.far (p := ⟨H, 0, none⟩) (by simp) (.slice A1 (k + 1) q1)
            have x9 := hk4.bx.far (p := ⟨H, 0, none⟩) (by simp; omega) (.slice A1 (k + 1) q1)
            refine Go.Mine.wpAnyK_ready (rs := [10]) (by kernel_rfl) (by simp) ?_
            refine Go.Mine.AllK.cons rfl (fun K hKK => ?_) Go.Mine.AllK.nil
            go_simp
            refine hKK _ _ (fun t ht _ => ⟨fun h0 => (by subst h0; cases ht), fun _ => i9, x9⟩) ?_
            clear hKK K
            have x10 := x9.far (p := ⟨H + 1, 0, none⟩) (by simp; omega) (.slice A2 (k + 1) q2)
            refine Go.Mine.wpAnyK_ready (rs := [11]) (by kernel_rfl) (by simp) ?_
            refine Go.Mine.AllK.cons rfl (fun K hKK => ?_) Go.Mine.AllK.nil
            go_simp
            refine hKK _ _ (fun t ht _ => ⟨fun h0 => (by subst h0; cases ht), fun h0 => (by subst h0; cases ht), x10⟩) ?_
            clear hKK K
            refine Go.Mine.wpAnyK_done (by kernel_rfl) ?_ _
            gi_wp2_with fail
            have hz := HEND.out _ _ _ hk4
            exact ⟨hz.1, rfl, hz.2⟩
  rintro e W2 ⟨⟨x, rfl⟩, hI, ht, hbx, v, u, hv, hu, hs1, hs2⟩
  · refine ⟨⟨_, rfl⟩, .inl ⟨hI.rec_, ?_⟩⟩
    have hp : OnlyIn [w2.heap.size + 1] W2 (W2.putObj (w2.heap.size + 1) (.loop (rc .exhausted none))) := (OnlyIn.refl _ _).putObj (.inl (by simp)) _
    have hI1 := hI.put (.loop (rc .exhausted none))
    have ht1 := ht.then hp (fun j hj => .inr (by simp at hj; omega))
    have hv1 := hv.only hp (by simp; omega)
    have hu1 := hu.only hp (by simp; omega)
    have hs11 := hs1.only hp (fun g hg hm => by simp at hm; subst hm; exact hs1.ne_obj hI.rec_ hg)
    have hs21 := hs2.only hp (fun g hg hm => by simp at hm; subst hm; exact hs2.ne_obj hI.rec_ hg)
    generalize W2.putObj _ _ = W3 at hI1 ht1 hv1 hu1 hs11 hs21 ⊢
    clear hp hI ht hv hu hs1 hs2 hround hX3' hbs hbi hO3 hbx
    have c0 := hv1.cell (i := 0) rfl
    have c1 := hu1.cell (i := 0) rfl
    obtain ⟨A1, q1, rfl, _⟩ := hs11.val
    obtain ⟨A2, q2, rfl, _⟩ := hs21.val
    have hmk := Make_any W3 _ _ pcodes pnums (Rd.of_sl hs11) (Rd.of_sl hs21) (by decide) (by decide) (by decide) (by decide)
    have hmk2 := hmk.mono (R' := fun e w' => ∃ b v mb, e = .returned (.tuple #[.pointer (some ⟨b, 0, none⟩), .int .i64 0]) ∧ Tr w' W3.heap.size b v mb 63 PT (told (pcodes.zip pnums)) 63 ∧ OnlyIn [] W3 w') (fun e w' ⟨ho, h⟩ => by
      rcases h with ⟨hbad, -⟩ | ⟨-, ⟨hno, -⟩ | ⟨t', b, v, mb, hs, he, hT⟩⟩
      · exfalso
        rcases hbad with hbad | hbad | hbad | hbad
        · exact hbad (by decide)
        · exact absurd hbad (by decide)
        · exact absurd hbad (by decide)
        · rw [pcodes_ok] at hbad; cases hbad
      · rw [pbuild] at hno; cases hno
      · rw [pbuild] at hs
        injection hs with hs
        subst hs
        exact ⟨b, v, mb, he, hT, ho⟩)
    have HH := Lib.hid (And.intro hI1 ht1)
    clear hmk hI1 ht1 hs11 hs21 hv1 hu1
    gi_wp2_with fail
    refine ⟨trivial, rfl, callsIn_wide.2 (hmk2.mono ?_)⟩
    rintro e w5 ⟨b, v, mb, rfl, hT, ht5⟩
    obtain ⟨hI1, ht1⟩ := HH.out
    have hI5 := hI1.only ht5 (by simp) (by simp)
    have hp5 : OnlyIn [w2.heap.size] w5 (w5.putObj w2.heap.size (.deferred none)) := (OnlyIn.refl _ _).putObj (.inl (by simp)) _
    gi_wp2_with fail
    refine leave_marks (D := w2.heap.size) rfl hI5.dfr (results_tmp rfl _ _ _) ?_
    exact ⟨b, v, mb, rfl, (hT.only hp5 (by simp; exact (Array.getElem?_eq_some_iff.1 hI1.dfr).1)).lower (by have := ht1.size; omega), (ht1.trans ht5).then hp5 (fun j hj => .inr (by simp at hj; omega))⟩
end Go.Proofs.YteblkjmeaojegaaDoor
