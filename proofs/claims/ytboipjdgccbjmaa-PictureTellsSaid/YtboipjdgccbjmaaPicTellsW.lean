/-
  Law 17: PictureTells, PictureReads: the walks.
-/
import Derived.Test.YtboipjdgccbjmaaLaw17
import Derived.Test.YtboipjdgccbjmaaKitKept
import Derived.Test.YtboipjdgccbjmaaOpenHead
namespace Go.Mine
theorem Lent.over {w w' : World} {base b2 : Nat} {e e2 : TypeId} {n : Nat} {v u : Value} {bs : List UInt8} {xs : List Value} (h : Lent w base e v bs) (hs : Sl w b2 e2 1 u n xs) (hb : ∀ g, v.ownBlock = some g → g < b2) (ht : OnlyIn u.ownBlock.toList w w') : Lent w' base e v bs :=
  h.only ht fun g hg hm => by
    have h1 := hb g hg
    have h2 := (hs.own_lt g (by simpa using hm)).1
    omega
theorem picN_len (bs : List UInt8) (i : Nat) : (picN bs i).2.2.1.length ≤ 32 := by
  unfold picN
  split
  · simp
  · split
    · rename_i h; exact (sparesOf_bound h).2.1
    · simp
theorem picAll_len (bs : List UInt8) (i : Int) : (picAll bs i).2.2.1.length ≤ 32 := by
  unfold picAll
  split
  · simp
  · exact picN_len _ _
end Go.Mine
namespace Go.Proofs.Ytboipjdgccbjmaa
open Go.RowKit Go.Mine

set_option maxRecDepth 100000 in
set_option maxHeartbeats 4000000 in
theorem PictureReads_walk {w : World} (x : Value × List UInt8) (hx : Rd w 1 x.1 x.2.length (byteCells x.2) ∧ x.2.length ≤ maxLen) (i : Int) (hii : -9223372036854775808 ≤ i ∧ i ≤ 9223372036854775807) :
    Calls Try.prog 4 #[x.1, .int .i64 i] w fun e w' => e = .returned (.bool true) ∧ OnlyIn [] w w' := by
  obtain ⟨v, s⟩ := x
  obtain ⟨hr, hml⟩ := hx
  simp only at hr hml ⊢
  have hi := hii.2
  clear hii
  have hr' := hr
  obtain ⟨-, A, c, rfl, hc, -⟩ := hr'
  by_cases hl : 100 < s.length
  · have hd : decide ((100 : Int) < (s.length : Int)) = true := by simp; omega
    clear hr
    go_enter Try.func4, Try.ntmps4
    go_wp2_with (go_at_call 13; refine (awake_any17 _).mono ?_; rintro e w1 ⟨rfl, ht⟩)
    go_ret
    exact ⟨rfl, ht⟩
  have hd : decide ((100 : Int) < (s.length : Int)) = false := by simp; omega
  have hl9 : s.length ≤ 1000000000 := by omega
  have hR := fun W (hW : OnlyIn [] w W) => hr.cells (w' := W) fun p u hp => hW.cell hp (by simp)
  obtain ⟨⟨t, y, l, n, er⟩, hG⟩ : ∃ H, picAll s i = H := ⟨_, rfl⟩
  have hll : l.length ≤ 32 := by have := picAll_len s i; rw [hG] at this; exact this
  have g1 := fun w v h => pGet_any w v s h hl9 i hi
  have g2 := fun w v h => rGet_any w v s h hl9 i hi
  rw [hG] at g1 g2
  unfold PicEnd at g1 g2
  simp only at g1 g2
  clear hr hG hml
  go_enter Try.func4, Try.ntmps4
  go_wp2_with fail
  refine (LentBytes_any _ _ s (hR _ (OnlyIn.refl _ _)) hl9).mono ?_
  rintro e w1 ⟨u, rfl, hL, t1⟩
  go_wp2_with fail
  refine (g1 _ _ hL.rd).mono ?_
  rintro e w2 ⟨u2, rfl, hs2, t2⟩
  obtain ⟨A2, c2, rfl, hc2⟩ := hs2.val
  go_wp2_with fail
  have ta : OnlyIn [] w1 (w2.alloc (.cells #[.int .i64 (t : Int), .int .i64 (y : Int), .slice A2 l.length c2] 24)) := t2.alloc _
  have hsa := hs2.alloc (.cells #[.int .i64 (t : Int), .int .i64 (y : Int), .slice A2 l.length c2] 24)
  have hB := Blk.new w2 24 [.int .i64 (t : Int), .int .i64 (y : Int), .slice A2 l.length c2]
  have hw12 : w1.heap.size ≤ w2.heap.size := t2.size
  refine (g2 _ _ (hR _ (t1.trans ta))).mono ?_
  rintro e w3 ⟨u3, rfl, hs3, t3⟩
  obtain ⟨A3, c3, rfl, hc3⟩ := hs3.val
  have hB3 := hB.only t3 (by simp)
  have hsb := hsa.only t3 (by simp)
  have tb := ta.trans t3
  have k0 := hB3.cell (i := 0) rfl
  have k1 := hB3.cell (i := 1) rfl
  have k2 := hB3.cell (i := 2) rfl
  have hlt := hB3.lt
  clear hB ta hsa t3 t2 hs2
  generalize w2.heap.size = g at hB3 k0 k1 k2 hlt hw12 ⊢
  have hne : ¬ g = w3.heap.size := by omega
  clear g1 g2
  go_wp2_with fail
  have tc : OnlyIn [] w1 (w3.alloc (.cells #[.int .i64 (t : Int), .int .i64 (y : Int), .slice A3 l.length c3] 24)) := tb.alloc _
  have hsc := hsb.alloc (.cells #[.int .i64 (t : Int), .int .i64 (y : Int), .slice A3 l.length c3] 24)
  have hBc := hB3.only ((OnlyIn.refl [] w3).alloc (.cells #[.int .i64 (t : Int), .int .i64 (y : Int), .slice A3 l.length c3] 24)) (by simp)
  refine (SameHead_yes _ _ _ _ _ l (Rd.of_sl hsc) (Rd.of_sl (hs3.alloc _))).mono ?_
  rintro e w4 ⟨rfl, t4⟩
  have hsd := hsc.only t4 (by simp)
  have hBd := hBc.only t4 (by simp)
  have td := tc.trans t4
  have k2 := hBd.cell (i := 2) rfl
  clear tc hsc hBc t4 hsb hB3 tb hs3 k0 k1
  go_wp2_with fail
  refine (OverBytes_any _ _ l.length l _ hsd (by omega)).mono ?_
  rintro e w5 ⟨rfl, t5⟩
  have hLb : ∀ g, u.ownBlock = some g → g < w1.heap.size := fun g hg => by
    obtain ⟨g', h1, _, h3⟩ := hL.own
    rw [h1] at hg; injection hg with hg; omega
  have hL5 := Lent.over (hL.only td (by simp)) hsd hLb t5
  have hO5 : OnlyIn [] w w5 := (t1.trans td).then t5 (fun j hj => .inr (Nat.le_trans t1.size (hsd.own_lt j (by simpa using hj)).1))
  clear hsd td t5
  go_wp2_with fail
  refine (KeptBytes_any _ _ _ _ s hL5 (hR _ hO5) hl9).mono ?_
  rintro e w10 ⟨rfl, t10⟩
  go_wp2_with fail
  refine (awake_any17 _).mono ?_
  rintro e w11 ⟨rfl, t11⟩
  go_wp2_with fail
  go_ret
  exact ⟨rfl, hO5.trans (t10.trans t11)⟩

set_option maxRecDepth 100000 in
set_option maxHeartbeats 4000000 in
theorem PictureTells_walk {w : World} (x : HeadIn) (hx : x.ok w) :
    Calls Try.prog 3 #[.agg #[.int .i64 x.t, .int .i64 x.y, x.v]] w fun e w' => e = .returned (.bool true) ∧ OnlyIn [] w w' := by
  obtain ⟨t, y, v, s⟩ := x
  obtain ⟨ht, hy, hr, hml⟩ := hx
  simp only at ht hy hr hml ⊢
  have hr' := hr
  obtain ⟨-, A, c, rfl, hc, -⟩ := hr'
  by_cases hl : 60 < s.length
  · have hd : decide ((60 : Int) < (s.length : Int)) = true := by simp; omega
    clear hr
    go_enter Try.func3, Try.ntmps3
    go_wp2_with (go_at_call 13; refine (awake_any17 _).mono ?_; rintro e w1 ⟨rfl, ht1⟩)
    go_ret
    exact ⟨rfl, ((OnlyIn.refl _ _).alloc _).trans ht1⟩
  have hd : decide ((60 : Int) < (s.length : Int)) = false := by simp; omega
  have hl9 : s.length ≤ 1000000000 := by omega
  have hR := fun W (hW : OnlyIn [] w W) => hr.cells (w' := W) fun p u hp => hW.cell hp (by simp)
  have g1 := fun W v h => pPut_any W t y v s h
  have g2 := fun W v h => rPut_any W t y v s h
  obtain ⟨⟨tx, er⟩, hG⟩ : ∃ H, putOf t y s = H := ⟨_, rfl⟩
  rw [hG] at g1 g2
  unfold TxtErr at g1 g2
  simp only at g1 g2
  obtain ⟨st, hst⟩ : ∃ x, str tx = x := ⟨_, rfl⟩
  rw [hst] at g1 g2
  clear hr hG hml hst ht hy
  go_enter Try.func3, Try.ntmps3
  go_wp2_with fail
  generalize hw2 : World.alloc _ _ = w2
  obtain ⟨hO, hsz⟩ := (Keep.start [] w).more2 hw2
  simp only [List.cons_append, List.nil_append] at hO
  clear hw2
  refine (LentBytes_any _ _ s (hR _ hO.only) hl9).mono ?_
  rintro e w3 ⟨u, rfl, hL, t3⟩
  have hO3 := hO.only0 t3
  have hw23 : w.heap.size ≤ w2.heap.size := by omega
  obtain ⟨gu, ou, cu, rfl, hsu⟩ : ∃ g off cap, u = .slice (some ⟨g, off, none⟩) s.length cap ∧ True := by
    obtain ⟨g, off, cap, h1, -⟩ := hL
    exact ⟨g, off, cap, h1, trivial⟩
  have hLne : ∀ b t cs, 5 ≠ t → Blk w3 b t cs → (Value.slice (some ⟨gu, ou, none⟩) s.length cu).ownBlock ≠ some b := fun b t cs hne hb => hL.ne_blk hb hne
  have k0 := hO3.cell 0 0 rfl rfl
  have k1 := hO3.cell 0 1 rfl rfl
  have k2 := hO3.cell 0 2 rfl rfl
  have f2 := hO3.free 0 2 rfl
  have m0 := hO3.cell 1 0 rfl rfl
  have m1 := hO3.cell 1 1 rfl rfl
  have m2 := hO3.cell 1 2 rfl rfl
  have HO := Lib.hid (And.intro hO3 hL)
  clear hO hO3 t3 hL hsz
  go_wp2_with fail
  obtain ⟨hO3, hL⟩ := HO.out
  have hO4 := hO3.set 0 2 rfl (.slice (some ⟨gu, ou, none⟩) s.length cu)
  have hL4 := hL.only ((OnlyIn.refl [w.heap.size + 1] w3).setCell (p := ⟨w.heap.size + 1, 2, none⟩) (.inl (by simp)) (.slice (some ⟨gu, ou, none⟩) s.length cu)) (fun g hg => by
    simp only [List.mem_singleton]
    rintro rfl
    exact hLne _ _ _ (by decide) (hO3.blk 0 rfl) hg)
  generalize World.setCell w3 _ _ = w4 at hO4 hL4 ⊢
  clear HO hO3 hL hLne k0 k1 k2 f2 m0 m1 m2
  simp only [List.set] at hO4
  refine (g1 _ _ hL4.rd).mono ?_
  rintro e w5 ⟨rfl, t5⟩
  have hO5 := hO4.only0 t5
  have hL5 := hL4.only t5 (by simp)
  have m0 := hO5.cell 1 0 rfl rfl
  have m1 := hO5.cell 1 1 rfl rfl
  have m2 := hO5.cell 1 2 rfl rfl
  clear hO4 hL4 t5
  go_wp2_with fail
  refine (g2 _ _ (hR _ hO5.only)).mono ?_
  rintro e w6 ⟨rfl, t6⟩
  have hO6 := hO5.only0 t6
  have hL6 := hL5.only t6 (by simp)
  have m0 := hO6.cell 1 0 rfl rfl
  have m1 := hO6.cell 1 1 rfl rfl
  have m2 := hO6.cell 1 2 rfl rfl
  have k0 := hO6.cell 0 0 rfl rfl
  have k1 := hO6.cell 0 1 rfl rfl
  have k2 := hO6.cell 0 2 rfl rfl
  have hRs : ∀ W, OnlyIn [] w6 W → Rd W 1 (.slice A s.length c) s.length (byteCells s) := fun W hW => hR W (hO6.only.trans hW)
  have hLs : ∀ W, OnlyIn [] w6 W → Lent W w2.heap.size 5 (.slice (some ⟨gu, ou, none⟩) s.length cu) s := fun W hW => hL6.only hW (by simp)
  have o6 := hO6.only
  clear hO5 hL5 t6 hO6 hL6 g1 g2 hR
  go_wp2_with fail
  (refine Go.Mine.wp_region_inv (Go.Mine.OnlyIn [] _) (by kernel_rfl) (by kernel_rfl) ((Go.Mine.OnlyIn.refl _ _).drew) ?_; (repeat (first | (refine Go.Mine.wpInv_run _ (by first | rfl | go_simp) (fun W hW => by (have c0 := hW.cell k0 (by simp); have c1 := hW.cell k1 (by simp); have c2 := hW.cell k2 (by simp); have d0 := hW.cell m0 (by simp); have d1 := hW.cell m1 (by simp); have d2 := hW.cell m2 (by simp); go_simp; first | exact ⟨rfl, hW⟩ | exact rfl | (simp only [Go.Mine.Oper.invUpon]; first | (go_at_call 17; exact (pCheck_any W t y _ s.length _).mono (fun e w'' h => ⟨h.1, hW.trans h.2⟩)) | (go_at_call 18; exact (rCheck_any W t y _ s.length _).mono (fun e w'' h => ⟨h.1, hW.trans h.2⟩)) | (go_at_call 19; exact (pFormat_any W t y _).mono (fun e w'' h => ⟨h.1, hW.trans h.2⟩)) | (go_at_call 20; exact (rFormat_any W t y _).mono (fun e w'' h => ⟨h.1, hW.trans h.2⟩)) | (go_at_call 21; exact (KeptBytes_any W _ _ _ s (hLs W hW) (hRs W hW) hl9).mono (fun e w'' h => ⟨h.1, hW.trans h.2⟩)) | (go_at_call 13; exact (awake_any17 W).mono (fun e w'' h => ⟨h.1, hW.trans h.2⟩))))) ?_; go_simp) | (refine Go.Mine.wpInv_skip (by first | rfl | go_simp) ?_; go_simp))); refine Go.Mine.wpInv_nil ?_; intro W hW; have c0 := hW.cell k0 (by simp); have c1 := hW.cell k1 (by simp); have c2 := hW.cell k2 (by simp); have d0 := hW.cell m0 (by simp); have d1 := hW.cell m1 (by simp); have d2 := hW.cell m2 (by simp))
  go_wp2_with fail
  go_ret
  exact ⟨rfl, o6.trans hW⟩
end Go.Proofs.Ytboipjdgccbjmaa
