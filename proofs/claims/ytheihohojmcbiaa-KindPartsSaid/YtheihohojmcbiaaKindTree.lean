/-
  Package kind: the tree of all codes.
-/
import Derived.Test.YtheihohojmcbiaaKindAll
import Derived.Test.YtheihohojmcbiaaTwoLists
import Derived.Test.YtheihohojmcbiaaPrefixMake
import Derived.Test.YtheihohojmcbiaaRefMake03
namespace Go.Mine
open Go.RowKit
theorem KAt.drew {TS TI STR INT : TypeId} {w w1 W : World} {r : Loop} {H : Nat} {X : Nat × TypeId × List Value} {v u sv su : Value} {n m : Nat} {xs ys : List Value} (h : KAt TS TI STR INT w w1 W (.loop r) H X v u sv su n m xs ys) :
    KAt TS TI STR INT w w1 W.drew (.loop r) H X v u sv su n m xs ys := ⟨⟨h.inl.1, h.inl.2⟩, h.on.drew, h.bs, h.bi, h.bx, h.s1, h.s2, h.ne⟩
theorem kc_take {k : Nat} (hk : k < 10) : txtCells (kcodes.take (k + 1)) = txtCells (kcodes.take k) ++ [.string (str (kc k))] := by
  rcases (by omega : k = 0 ∨ k = 1 ∨ k = 2 ∨ k = 3 ∨ k = 4 ∨ k = 5 ∨ k = 6 ∨ k = 7 ∨ k = 8 ∨ k = 9) with rfl | rfl | rfl | rfl | rfl | rfl | rfl | rfl | rfl | rfl <;> rfl
theorem kn_take {k : Nat} (hk : k < 10) : intCells (knums.take (k + 1)) = intCells (knums.take k) ++ [.int .i64 ((k : Int) + 1)] := by
  rcases (by omega : k = 0 ∨ k = 1 ∨ k = 2 ∨ k = 3 ∨ k = 4 ∨ k = 5 ∨ k = 6 ∨ k = 7 ∨ k = 8 ∨ k = 9) with rfl | rfl | rfl | rfl | rfl | rfl | rfl | rfl | rfl | rfl <;> rfl
end Go.Mine
namespace Go.Proofs.Ytheihohojmcbiaa
open Go.RowKit Go.Mine Go.Shelf

attribute [local go_sem] Oper.semAt_some

set_option maxRecDepth 100000 in
set_option maxHeartbeats 4000000 in
theorem ktree_any (w : World) : Calls Try.prog 48 #[] w fun e w' => ∃ b v mb, e = .returned (.pointer (some ⟨b, 0, none⟩)) ∧ Tr w' w.heap.size b v mb 10 KT (told kz) 10 ∧ OnlyIn [] w w' := by
  obtain ⟨i0, hi0, hz0, hz1, hz2⟩ := info_parts Try.infoStr
  obtain ⟨j0, hj0, hy0, hy1, hy2⟩ := info_parts Try.infoIC
  (refine (callsIn_wide (n := 0)).1 ?_; refine callsIn_of_wp_marks Try.func48 rfl trivial ?_ rfl; simp only [Try.ntmps48, List.size_toArray, List.length_cons, List.length_nil, Nat.reduceAdd, Nat.reduceSub, Array.replicate_succ, Array.replicate_zero, List.push_toArray, List.append_toArray, List.nil_append, List.cons_append])
  gi_wp2_with fail
  generalize hw2 : World.alloc (World.alloc _ _) _ = w2
  obtain ⟨hO, hsz⟩ := (Keep.start [] w).more2 hw2
  clear hw2
  have hbs : Blk w2 w.heap.size 75 [.slice none 0 0] := hO.blk 1 rfl
  have hbi : Blk w2 (w.heap.size + 1) 41 [.slice none 0 0] := hO.blk 0 rfl
  refine ⟨trivial, rfl, callsIn_wide.2 ((kall_any w2).mono ?_)⟩
  rintro e w3 ⟨rfl, rfl⟩
  gi_wp2_with fail
  refine wpIn_range2 (gf := 74) (lb := #[]) rfl (enters_of Try.func74 (by kernel_rfl) rfl) ?_
  intro rc hround
  obtain ⟨H, hH⟩ : ∃ H, w.heap.size = H := ⟨_, rfl⟩
  rw [hH] at hbs hbi hsz
  have hH2 : H + 1 < w2.heap.size := by omega
  clear hsz
  refine (kall1_any (w2.heap.size + 1)
    (fun k W => InLoop w2 W (.loop (rc .ready none)) ∧ OnlyIn [] w W ∧ ∃ v u, Blk W H 75 [v] ∧ Blk W (H + 1) 41 [u] ∧ Sl W w.heap.size 9 1 v k (txtCells (kcodes.take k)) ∧ Sl W w.heap.size 3 1 u k (intCells (knums.take k)))
    (fun _ _ => False) ?hS ?hY _ ?h0).mono ?_
  case hS =>
    rintro k W W' ht ⟨h1, h2, v, u, h3, h4, h5, h6⟩
    exact ⟨h1.only ht (by simp) (by simp), h2.trans ht, v, u, h3.only ht (by simp), h4.only ht (by simp), h5.only ht (by simp), h6.only ht (by simp)⟩
  case h0 => exact ⟨InLoop.start _ _, (hO.only.alloc _).alloc _, _, _, (hbs.alloc _).alloc _, (hbi.alloc _).alloc _, Sl.nil _ _ _ _, Sl.nil _ _ _ _⟩
  case hY =>
    rintro k W hk ⟨hI, ht, v, u, hv, hu, hs1, hs2⟩
    refine hround _ W _ rfl hI.rec_ ?_
    gi_wp2_with fail
    have ha : OnlyIn [] W (W.alloc (.cells #[.string (str (kc k)), .bool (kpart k 0), .bool (kpart k 1), .bool (kpart k 2), .bool (kpart k 3), .bool (kpart k 4)] 69)) := (OnlyIn.refl _ _).alloc _
    have hb : Blk (W.alloc (.cells #[.string (str (kc k)), .bool (kpart k 0), .bool (kpart k 1), .bool (kpart k 2), .bool (kpart k 3), .bool (kpart k 4)] 69)) W.heap.size 69 [.string (str (kc k)), .bool (kpart k 0), .bool (kpart k 1), .bool (kpart k 2), .bool (kpart k 3), .bool (kpart k 4)] := Blk.new W 69 [.string (str (kc k)), .bool (kpart k 0), .bool (kpart k 1), .bool (kpart k 2), .bool (kpart k 3), .bool (kpart k 4)]
    generalize W.alloc _ = Wb at ha hb ⊢
    have hI1 := hI.only ha (by simp) (by simp)
    have ht1 := ht.trans ha
    have hv1 := hv.only ha (by simp)
    have hu1 := hu.only ha (by simp)
    have hs11 := hs1.only ha (by simp)
    have hs21 := hs2.only ha (by simp)
    have hXs := hI.rec_
    have hXl : w2.heap.size + 1 < W.heap.size := (Array.getElem?_eq_some_iff.1 hXs).1
    refine ⟨hI1.rec_, ?_⟩
    have hp : OnlyIn [w2.heap.size + 1] Wb (Wb.putObj (w2.heap.size + 1) (.loop (rc .busy none))) := (OnlyIn.refl _ _).putObj (.inl (by simp)) _
    have hK : KAt 75 41 9 3 w w2 (Wb.putObj (w2.heap.size + 1) (.loop (rc .busy none))) (.loop (rc .busy none)) H (W.heap.size, 69, [.string (str (kc k)), .bool (kpart k 0), .bool (kpart k 1), .bool (kpart k 2), .bool (kpart k 3), .bool (kpart k 4)]) v u v u k k (txtCells (kcodes.take k)) (intCells (knums.take k)) :=
      ⟨hI1.put _, ht1.then hp (fun j hj => .inr (by simp at hj; omega)), hv1.only hp (by simp; omega), hu1.only hp (by simp; omega), hb.only hp (by simp; omega),
        hs11.only hp (fun g hg hm => by simp at hm; subst hm; exact hs11.ne_obj hI1.rec_ hg), hs21.only hp (fun g hg hm => by simp at hm; subst hm; exact hs21.ne_obj hI1.rec_ hg), ⟨by decide, by decide, by decide, by decide, by decide, by simp, by simp⟩⟩
    generalize Wb.putObj _ _ = Wc at hK ⊢
    clear ha hb hI1 ht1 hv1 hu1 hs11 hs21 hp hround hI ht hv hu hs1 hs2 hXs
    generalize W.heap.size = X at hK hXl ⊢
    have hend : ∀ W5 v5 u5, KAt 75 41 9 3 w w2 W5 (.loop (rc .busy none)) H (X, 69, [.string (str (kc k)), .bool (kpart k 0), .bool (kpart k 1), .bool (kpart k 2), .bool (kpart k 3), .bool (kpart k 4)]) v u v5 u5 (k + 1) (k + 1) (txtCells (kcodes.take k) ++ [.string (str (kc k))]) (intCells (knums.take k) ++ [.int .i64 ((k : Int) + 1)]) →
        ((W5.setCell ⟨H, 0, none⟩ v5).setCell ⟨H + 1, 0, none⟩ u5).heap[w2.heap.size + 1]? = some (.loop (rc .busy none)) ∧ (InLoop w2 (((W5.setCell ⟨H, 0, none⟩ v5).setCell ⟨H + 1, 0, none⟩ u5).putObj (w2.heap.size + 1) (.loop (rc .ready none))) (.loop (rc .ready none)) ∧
          OnlyIn [] w (((W5.setCell ⟨H, 0, none⟩ v5).setCell ⟨H + 1, 0, none⟩ u5).putObj (w2.heap.size + 1) (.loop (rc .ready none))) ∧
          ∃ z, Blk (((W5.setCell ⟨H, 0, none⟩ v5).setCell ⟨H + 1, 0, none⟩ u5).putObj (w2.heap.size + 1) (.loop (rc .ready none))) H 75 [z] ∧ ∃ x, Blk (((W5.setCell ⟨H, 0, none⟩ v5).setCell ⟨H + 1, 0, none⟩ u5).putObj (w2.heap.size + 1) (.loop (rc .ready none))) (H + 1) 41 [x] ∧
            Sl (((W5.setCell ⟨H, 0, none⟩ v5).setCell ⟨H + 1, 0, none⟩ u5).putObj (w2.heap.size + 1) (.loop (rc .ready none))) H 9 1 z (k + 1) (txtCells (kcodes.take (k + 1))) ∧
            Sl (((W5.setCell ⟨H, 0, none⟩ v5).setCell ⟨H + 1, 0, none⟩ u5).putObj (w2.heap.size + 1) (.loop (rc .ready none))) H 3 1 x (k + 1) (intCells (knums.take (k + 1)))) := by
      intro W5 v5 u5 h5
      rw [kc_take hk, kn_take hk]
      have i1 := h5.inl.setCell h5.bs 0 v5
      have e1 := h5.bi.far (p := ⟨H, 0, none⟩) (by simp) v5
      have i2 := i1.setCell e1 0 u5
      have d2 := (h5.bs.set 0 v5).far (p := ⟨H + 1, 0, none⟩) (by simp) u5
      have e2 := e1.set 0 u5
      have r1 := (h5.s1.setCell (p := ⟨H, 0, none⟩) (h5.s1.ne_blk h5.bs (by decide)) v5).setCell (p := ⟨H + 1, 0, none⟩) (h5.s1.ne_blk h5.bi (by decide)) u5
      have r2 := (h5.s2.setCell (p := ⟨H, 0, none⟩) (h5.s2.ne_blk h5.bs (by decide)) v5).setCell (p := ⟨H + 1, 0, none⟩) (h5.s2.ne_blk h5.bi (by decide)) u5
      have o2 := (h5.on.setCell (p := ⟨H, 0, none⟩) (.inr (by simp; omega)) v5).setCell (p := ⟨H + 1, 0, none⟩) (.inr (by simp; omega)) u5
      rw [hH] at r1 r2
      generalize World.setCell (World.setCell _ _ _) _ _ = W6 at *
      have hp : OnlyIn [w2.heap.size + 1] W6 (W6.putObj (w2.heap.size + 1) (.loop (rc .ready none))) := (OnlyIn.refl _ _).putObj (.inl (by simp)) _
      exact ⟨i2.rec_, i2.put _, o2.then hp (fun j hj => .inr (by simp at hj; omega)), v5, d2.only hp (by simp; omega), u5, e2.only hp (by simp; omega),
        r1.only hp (fun g hg hm => by simp at hm; subst hm; exact r1.ne_obj i2.rec_ hg), r2.only hp (fun g hg hm => by simp at hm; subst hm; exact r2.ne_obj i2.rec_ hg)⟩
    have HEND := Lib.hid hend
    clear hend
    gi_wp2_with fail
    refine Go.Mine.wpIn_region_of_any (Go.Mine.Open.inRound _) Try.mixed (by kernel_rfl) (by rintro ⟨_, _, h⟩; exact h.elim) (Go.Mine.wpAny_of_K (J := (fun t W => (t = 0 → Blk W H 75 [v]) ∧ (t = 1 → Blk W (H + 1) 41 [u]) ∧ Blk W X 69 [.string (str (kc k)), .bool (kpart k 0), .bool (kpart k 1), .bool (kpart k 2), .bool (kpart k 3), .bool (kpart k 4)])) (zs := fun t => if t = 0 then [9, 10] else if t = 1 then [10] else []) _ _ _ _ ?_)
    have hk0 := hK.drew
    refine Go.Mine.wpAnyK_sure 0 _ (i := 0) rfl (by kernel_rfl) (by kernel_rfl) (by kernel_rfl) (by kernel_rfl) (fun _ _ _ h => h) ⟨fun _ => hk0.bs, fun _ => hk0.bi, hk0.bx⟩ (by first | rfl | go_simp) (fun W hW => by (have h1 := (hW.1 rfl).cell (i := 0) rfl; have h3 := hW.2.2.cell (i := 0) rfl; go_simp; exact ⟨rfl, rfl⟩)) ?_
    refine Go.Mine.wpAnyK_sure 2 _ (i := 1) rfl (by kernel_rfl) (by kernel_rfl) (by kernel_rfl) (by kernel_rfl) (fun _ _ _ h => h) ⟨fun _ => hk0.bs, fun _ => hk0.bi, hk0.bx⟩ (by first | rfl | go_simp) (fun W hW => by (have h3 := hW.2.2.cell (i := 0) rfl; go_simp; exact ⟨rfl, rfl⟩)) ?_
    refine Go.Mine.wpAnyK_sure 2 _ (i := 2) rfl (by kernel_rfl) (by kernel_rfl) (by kernel_rfl) (by kernel_rfl) (fun _ _ _ h => h) ⟨fun _ => hk0.bs, fun _ => hk0.bi, hk0.bx⟩ (by first | rfl | go_simp) (fun W hW => by (have h3 := hW.2.2.cell (i := 0) rfl; go_simp; exact ⟨rfl, rfl⟩)) ?_
    refine Go.Mine.wpAnyK_sure 1 _ (i := 5) rfl (by kernel_rfl) (by kernel_rfl) (by kernel_rfl) (by kernel_rfl) (fun _ _ _ h => h) ⟨fun _ => hk0.bs, fun _ => hk0.bi, hk0.bx⟩ (by first | rfl | go_simp) (fun W hW => by (have h2 := (hW.2.1 rfl).cell (i := 0) rfl; have h3 := hW.2.2.cell (i := 0) rfl; go_simp; exact ⟨rfl, rfl⟩)) ?_
    refine Go.Mine.wpAnyK_sure 2 _ (i := 6) rfl (by kernel_rfl) (by kernel_rfl) (by kernel_rfl) (by kernel_rfl) (fun _ _ _ h => h) ⟨fun _ => hk0.bs, fun _ => hk0.bi, hk0.bx⟩ (by first | rfl | go_simp) (fun W hW => by (have h3 := hW.2.2.cell (i := 0) rfl; go_simp; exact ⟨rfl, rfl⟩)) ?_
    refine Go.Mine.wpAnyK_ready (rs := [3, 7]) (by kernel_rfl) (by simp) ?_
    refine Go.Mine.AllK.cons rfl (fun K hKK => ?_) (Go.Mine.AllK.cons rfl (fun K hKK => ?_) Go.Mine.AllK.nil)
    · go_simp
      have hk1 := hk0.alloc (.cells #[.string (str (kc k))] 9)
      have ga1 := Blk.new Wc.drew 9 [.string (str (kc k))]
      refine hKK _ _ (fun _ _ _ => ⟨fun _ => hk1.bs, fun _ => hk1.bi, hk1.bx⟩) ?_
      clear hKK K
      refine Go.Mine.wpAnyK_ready (rs := [4, 7]) (by kernel_rfl) (by simp) ?_
      refine Go.Mine.AllK.cons rfl (fun K hKK => ?_) (Go.Mine.AllK.cons rfl (fun K hKK => ?_) Go.Mine.AllK.nil)
      · refine step_append_sl rfl _ _ 75 rfl w.heap.size 9 i0 _ 1 16 Try.underlying75 hi0 hz0 hz1 hz2 rfl (by decide) v _ _ rfl hk1.s1 _ 1 _ rfl (Go.Mine.Rd.one ga1) (by simp [Value.oneCell']) (by simp only [maxLen]; omega) (by omega) hk1.on.size ?_
        intro v2 w2 hs2 hg2 hat2
        have hk2 := hk1.app1 hs2 hg2
        refine hKK _ _ (fun _ _ _ => ⟨fun _ => hk2.bs, fun _ => hk2.bi, hk2.bx⟩) ?_
        clear hKK K
        refine Go.Mine.wpAnyK_ready (rs := [7]) (by kernel_rfl) (by simp) ?_
        refine Go.Mine.AllK.cons rfl (fun K hKK => ?_) Go.Mine.AllK.nil
        · go_simp
          have hk3 := hk2.alloc (.cells #[.int .i64 ((k : Int) + 1)] 3)
          have gb3 := Blk.new w2 3 [.int .i64 ((k : Int) + 1)]
          refine hKK _ _ (fun _ _ _ => ⟨fun _ => hk3.bs, fun _ => hk3.bi, hk3.bx⟩) ?_
          clear hKK K
          refine Go.Mine.wpAnyK_ready (rs := [8]) (by kernel_rfl) (by simp) ?_
          refine Go.Mine.AllK.cons rfl (fun K hKK => ?_) Go.Mine.AllK.nil
          · refine step_append_sl rfl _ _ 41 rfl w.heap.size 3 j0 _ 1 8 Try.underlying41 hj0 hy0 hy1 hy2 rfl (by decide) u _ _ rfl hk3.s2 _ 1 _ rfl (Go.Mine.Rd.one gb3) (by simp [Value.oneCell']) (by simp only [maxLen]; omega) (by omega) hk3.on.size ?_
            intro v4 w4 hs4 hg4 hat4
            have hk4 := hk3.app2 hs4 hg4
            refine hKK _ _ (fun _ _ _ => ⟨fun _ => hk4.bs, fun _ => hk4.bi, hk4.bx⟩) ?_
            clear hKK K
            obtain ⟨A1, q1, rfl, _⟩ := hk4.s1.val
            obtain ⟨A2, q2, rfl, _⟩ := hk4.s2.val
            have c0 := hk4.bs.cell (i := 0) rfl
            have f0 := hk4.bs.free 0
            have c1 := hk4.bi.cell (i := 0) rfl
            have f1 := hk4.bi.free 0
            have b9 := hk4.bx
            have i9 := hk4.bi.far (p := ⟨H, 0, none⟩) (by simp) (.slice A1 (k + 1) q1)
            have x9 := hk4.bx.far (p := ⟨H, 0, none⟩) (by simp; omega) (.slice A1 (k + 1) q1)
            refine Go.Mine.wpAnyK_ready (rs := [9]) (by kernel_rfl) (by simp) ?_
            refine Go.Mine.AllK.cons rfl (fun K hKK => ?_) Go.Mine.AllK.nil
            go_simp
            refine hKK _ _ (fun t ht _ => ⟨fun h0 => (by subst h0; cases ht), fun _ => i9, x9⟩) ?_
            clear hKK K
            have x10 := x9.far (p := ⟨H + 1, 0, none⟩) (by simp; omega) (.slice A2 (k + 1) q2)
            refine Go.Mine.wpAnyK_ready (rs := [10]) (by kernel_rfl) (by simp) ?_
            refine Go.Mine.AllK.cons rfl (fun K hKK => ?_) Go.Mine.AllK.nil
            go_simp
            refine hKK _ _ (fun t ht _ => ⟨fun h0 => (by subst h0; cases ht), fun h0 => (by subst h0; cases ht), x10⟩) ?_
            clear hKK K
            refine Go.Mine.wpAnyK_done (by kernel_rfl) ?_ _
            gi_wp2_with fail
            have hz := HEND.out _ _ _ hk4
            exact ⟨hz.1, rfl, hz.2⟩
      · go_simp
        have hk2 := hk1.alloc (.cells #[.int .i64 ((k : Int) + 1)] 3)
        have ga1x := ga1.alloc (.cells #[.int .i64 ((k : Int) + 1)] 3)
        have gb2 := Blk.new (Wc.drew.alloc (.cells #[.string (str (kc k))] 9)) 3 [.int .i64 ((k : Int) + 1)]
        simp only [World.size_alloc] at gb2
        refine hKK _ _ (fun _ _ _ => ⟨fun _ => hk2.bs, fun _ => hk2.bi, hk2.bx⟩) ?_
        clear hKK K
        refine Go.Mine.wpAnyK_ready (rs := [4]) (by kernel_rfl) (by simp) ?_
        refine Go.Mine.AllK.cons rfl (fun K hKK => ?_) Go.Mine.AllK.nil
        · refine step_append_sl rfl _ _ 75 rfl w.heap.size 9 i0 _ 1 16 Try.underlying75 hi0 hz0 hz1 hz2 rfl (by decide) v _ _ rfl hk2.s1 _ 1 _ rfl (Go.Mine.Rd.one ga1x) (by simp [Value.oneCell']) (by simp only [maxLen]; omega) (by omega) hk2.on.size ?_
          intro v3 w3 hs3 hg3 hat3
          have hk3 := hk2.app1 hs3 hg3
          have gb2x := hk2.litB gb2 hg3
          refine hKK _ _ (fun _ _ _ => ⟨fun _ => hk3.bs, fun _ => hk3.bi, hk3.bx⟩) ?_
          clear hKK K
          refine Go.Mine.wpAnyK_ready (rs := [8]) (by kernel_rfl) (by simp) ?_
          refine Go.Mine.AllK.cons rfl (fun K hKK => ?_) Go.Mine.AllK.nil
          · refine step_append_sl rfl _ _ 41 rfl w.heap.size 3 j0 _ 1 8 Try.underlying41 hj0 hy0 hy1 hy2 rfl (by decide) u _ _ rfl hk3.s2 _ 1 _ rfl (Go.Mine.Rd.one gb2x) (by simp [Value.oneCell']) (by simp only [maxLen]; omega) (by omega) hk3.on.size ?_
            intro v4 w4 hs4 hg4 hat4
            have hk4 := hk3.app2 hs4 hg4
            refine hKK _ _ (fun _ _ _ => ⟨fun _ => hk4.bs, fun _ => hk4.bi, hk4.bx⟩) ?_
            clear hKK K
            obtain ⟨A1, q1, rfl, _⟩ := hk4.s1.val
            obtain ⟨A2, q2, rfl, _⟩ := hk4.s2.val
            have c0 := hk4.bs.cell (i := 0) rfl
            have f0 := hk4.bs.free 0
            have c1 := hk4.bi.cell (i := 0) rfl
            have f1 := hk4.bi.free 0
            have b9 := hk4.bx
            have i9 := hk4.bi.far (p := ⟨H, 0, none⟩) (by simp) (.slice A1 (k + 1) q1)
            have x9 := hk4.bx.far (p := ⟨H, 0, none⟩) (by simp; omega) (.slice A1 (k + 1) q1)
            refine Go.Mine.wpAnyK_ready (rs := [9]) (by kernel_rfl) (by simp) ?_
            refine Go.Mine.AllK.cons rfl (fun K hKK => ?_) Go.Mine.AllK.nil
            go_simp
            refine hKK _ _ (fun t ht _ => ⟨fun h0 => (by subst h0; cases ht), fun _ => i9, x9⟩) ?_
            clear hKK K
            have x10 := x9.far (p := ⟨H + 1, 0, none⟩) (by simp; omega) (.slice A2 (k + 1) q2)
            refine Go.Mine.wpAnyK_ready (rs := [10]) (by kernel_rfl) (by simp) ?_
            refine Go.Mine.AllK.cons rfl (fun K hKK => ?_) Go.Mine.AllK.nil
            go_simp
            refine hKK _ _ (fun t ht _ => ⟨fun h0 => (by subst h0; cases ht), fun h0 => (by subst h0; cases ht), x10⟩) ?_
            clear hKK K
            refine Go.Mine.wpAnyK_done (by kernel_rfl) ?_ _
            gi_wp2_with fail
            have hz := HEND.out _ _ _ hk4
            exact ⟨hz.1, rfl, hz.2⟩
    · go_simp
      have hk1 := hk0.alloc (.cells #[.int .i64 ((k : Int) + 1)] 3)
      have gb1 := Blk.new Wc.drew 3 [.int .i64 ((k : Int) + 1)]
      refine hKK _ _ (fun _ _ _ => ⟨fun _ => hk1.bs, fun _ => hk1.bi, hk1.bx⟩) ?_
      clear hKK K
      refine Go.Mine.wpAnyK_ready (rs := [3]) (by kernel_rfl) (by simp) ?_
      refine Go.Mine.AllK.cons rfl (fun K hKK => ?_) Go.Mine.AllK.nil
      · go_simp
        have hk2 := hk1.alloc (.cells #[.string (str (kc k))] 9)
        have gb1x := gb1.alloc (.cells #[.string (str (kc k))] 9)
        have ga2 := Blk.new (Wc.drew.alloc (.cells #[.int .i64 ((k : Int) + 1)] 3)) 9 [.string (str (kc k))]
        simp only [World.size_alloc] at ga2
        refine hKK _ _ (fun _ _ _ => ⟨fun _ => hk2.bs, fun _ => hk2.bi, hk2.bx⟩) ?_
        clear hKK K
        refine Go.Mine.wpAnyK_ready (rs := [4]) (by kernel_rfl) (by simp) ?_
        refine Go.Mine.AllK.cons rfl (fun K hKK => ?_) Go.Mine.AllK.nil
        · refine step_append_sl rfl _ _ 75 rfl w.heap.size 9 i0 _ 1 16 Try.underlying75 hi0 hz0 hz1 hz2 rfl (by decide) v _ _ rfl hk2.s1 _ 1 _ rfl (Go.Mine.Rd.one ga2) (by simp [Value.oneCell']) (by simp only [maxLen]; omega) (by omega) hk2.on.size ?_
          intro v3 w3 hs3 hg3 hat3
          have hk3 := hk2.app1 hs3 hg3
          have gb1xx := hk2.litB gb1x hg3
          refine hKK _ _ (fun _ _ _ => ⟨fun _ => hk3.bs, fun _ => hk3.bi, hk3.bx⟩) ?_
          clear hKK K
          refine Go.Mine.wpAnyK_ready (rs := [8]) (by kernel_rfl) (by simp) ?_
          refine Go.Mine.AllK.cons rfl (fun K hKK => ?_) Go.Mine.AllK.nil
          · refine step_append_sl rfl _ _ 41 rfl w.heap.size 3 j0 _ 1 8 Try.underlying41 hj0 hy0 hy1 hy2 rfl (by decide) u _ _ rfl hk3.s2 _ 1 _ rfl (Go.Mine.Rd.one gb1xx) (by simp [Value.oneCell']) (by simp only [maxLen]; omega) (by omega) hk3.on.size ?_
            intro v4 w4 hs4 hg4 hat4
            have hk4 := hk3.app2 hs4 hg4
            refine hKK _ _ (fun _ _ _ => ⟨fun _ => hk4.bs, fun _ => hk4.bi, hk4.bx⟩) ?_
            clear hKK K
            obtain ⟨A1, q1, rfl, _⟩ := hk4.s1.val
            obtain ⟨A2, q2, rfl, _⟩ := hk4.s2.val
            have c0 := hk4.bs.cell (i := 0) rfl
            have f0 := hk4.bs.free 0
            have c1 := hk4.bi.cell (i := 0) rfl
            have f1 := hk4.bi.free 0
            have b9 := hk4.bx
            have i9 := hk4.bi.far (p := ⟨H, 0, none⟩) (by simp) (.slice A1 (k + 1) q1)
            have x9 := hk4.bx.far (p := ⟨H, 0, none⟩) (by simp; omega) (.slice A1 (k + 1) q1)
            refine Go.Mine.wpAnyK_ready (rs := [9]) (by kernel_rfl) (by simp) ?_
            refine Go.Mine.AllK.cons rfl (fun K hKK => ?_) Go.Mine.AllK.nil
            go_simp
            refine hKK _ _ (fun t ht _ => ⟨fun h0 => (by subst h0; cases ht), fun _ => i9, x9⟩) ?_
            clear hKK K
            have x10 := x9.far (p := ⟨H + 1, 0, none⟩) (by simp; omega) (.slice A2 (k + 1) q2)
            refine Go.Mine.wpAnyK_ready (rs := [10]) (by kernel_rfl) (by simp) ?_
            refine Go.Mine.AllK.cons rfl (fun K hKK => ?_) Go.Mine.AllK.nil
            go_simp
            refine hKK _ _ (fun t ht _ => ⟨fun h0 => (by subst h0; cases ht), fun h0 => (by subst h0; cases ht), x10⟩) ?_
            clear hKK K
            refine Go.Mine.wpAnyK_done (by kernel_rfl) ?_ _
            gi_wp2_with fail
            have hz := HEND.out _ _ _ hk4
            exact ⟨hz.1, rfl, hz.2⟩
  rintro e W2 ⟨⟨x, rfl⟩, (⟨hI, ht, v, u, hv, hu, hs1, hs2⟩ | ⟨_, _, hF⟩)⟩
  · refine ⟨⟨_, rfl⟩, .inl ⟨hI.rec_, ?_⟩⟩
    have hp : OnlyIn [w2.heap.size + 1] W2 (W2.putObj (w2.heap.size + 1) (.loop (rc .exhausted none))) := (OnlyIn.refl _ _).putObj (.inl (by simp)) _
    have hI1 := hI.put (.loop (rc .exhausted none))
    have ht1 := ht.then hp (fun j hj => .inr (by simp at hj; omega))
    have hv1 := hv.only hp (by simp; omega)
    have hu1 := hu.only hp (by simp; omega)
    have hs11 := hs1.only hp (fun g hg hm => by simp at hm; subst hm; exact hs1.ne_obj hI.rec_ hg)
    have hs21 := hs2.only hp (fun g hg hm => by simp at hm; subst hm; exact hs2.ne_obj hI.rec_ hg)
    generalize W2.putObj _ _ = W3 at hI1 ht1 hv1 hu1 hs11 hs21 ⊢
    clear hp hI ht hv hu hs1 hs2 hround
    have c0 := hv1.cell (i := 0) rfl
    have c1 := hu1.cell (i := 0) rfl
    obtain ⟨A1, q1, rfl, _⟩ := hs11.val
    obtain ⟨A2, q2, rfl, _⟩ := hs21.val
    have hmk := Make_any W3 _ _ kcodes knums (Rd.of_sl hs11) (Rd.of_sl hs21) (by decide) (by decide) (by decide) (by decide)
    have hmk2 := hmk.mono (R' := fun e w' => ∃ b v mb, e = .returned (.tuple #[.pointer (some ⟨b, 0, none⟩), .int .i64 0]) ∧ Tr w' W3.heap.size b v mb 10 KT (told kz) 10 ∧ OnlyIn [] W3 w') (fun e w' ⟨ho, h⟩ => by
      rcases h with ⟨hbad, -⟩ | ⟨-, ⟨hno, -⟩ | ⟨t', b, v, mb, hs, he, hT⟩⟩
      · exfalso
        rcases hbad with hbad | hbad | hbad | hbad
        · exact hbad (by decide)
        · exact absurd hbad (by decide)
        · exact absurd hbad (by decide)
        · rw [kcodes_ok] at hbad; cases hbad
      · rw [kbuild] at hno; cases hno
      · rw [kbuild] at hs
        injection hs with hs
        subst hs
        exact ⟨b, v, mb, he, hT, ho⟩)
    have HH := Lib.hid (And.intro hI1 ht1)
    clear hmk hI1 ht1 hs11 hs21 hv1 hu1
    gi_wp2_with fail
    refine ⟨trivial, rfl, callsIn_wide.2 (hmk2.mono ?_)⟩
    rintro e w5 ⟨b, v, mb, rfl, hT, ht5⟩
    obtain ⟨hI1, ht1⟩ := HH.out
    have hI5 := hI1.only ht5 (by simp) (by simp)
    have hp5 : OnlyIn [w2.heap.size] w5 (w5.putObj w2.heap.size (.deferred none)) := (OnlyIn.refl _ _).putObj (.inl (by simp)) _
    gi_wp2_with fail
    refine leave_marks (D := w2.heap.size) rfl hI5.dfr (results_tmp rfl _ _ _) ?_
    exact ⟨b, v, mb, rfl, (hT.only hp5 (by simp; exact (Array.getElem?_eq_some_iff.1 hI1.dfr).1)).lower (by have := ht1.size; omega), (ht1.trans ht5).then hp5 (fun j hj => .inr (by simp at hj; omega))⟩
  · exact hF.elim
end Go.Proofs.Ytheihohojmcbiaa
