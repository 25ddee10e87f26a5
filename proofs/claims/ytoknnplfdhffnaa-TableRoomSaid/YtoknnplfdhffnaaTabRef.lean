/-
  Package praxinoscoperef26: the document's table.
-/
import Derived.Test.YtoknnplfdhffnaaTabLaw
import Derived.Test.YtoknnplfdhffnaaRows
import Derived.StillTailTactics
import Derived.Deep.RegionWith
import Derived.Deep.RegionHeld3
import Derived.Deep.RegionLaw
namespace Go.Proofs.Ytoknnplfdhffnaa
open Go.RowKit Go.Mine

theorem Try.infoTI : (Try.prog.info? 3).map (fun i => (i.zero, i.size, i.bytes)) = some (some (.int .i64 0), 1, 8) := by kernel_rfl
theorem Try.infoTE : (Try.prog.info? 26).map (fun i => (i.zero, i.size, i.bytes)) = some (some (.int .i64 0), 1, 8) := by kernel_rfl

/-- The document's table at b. -/
structure TRf (w : World) (b base : Nat) (v : Value) (N : Nat) (cs : List Int) : Prop where
  blk : Blk w b 61 [.int .i64 (N : Int), v]
  sl : Sl w base 26 1 v cs.length (intCells cs)
  top : N ≤ 64
  small : cs.length ≤ 100000
section
variable {w w' : World} {b base N : Nat} {v : Value} {cs : List Int} {S : List Nat}
theorem TRf.only (h : TRf w b base v N cs) (ht : OnlyIn S w w') (hb : b ∉ S) (hv : ∀ g, v.ownBlock = some g → g ∉ S) : TRf w' b base v N cs := ⟨h.blk.only ht hb, h.sl.only ht hv, h.top, h.small⟩
theorem TRf.only0 (h : TRf w b base v N cs) (ht : OnlyIn [] w w') : TRf w' b base v N cs := h.only ht (by simp) (by simp)
theorem TRf.mono {base' : Nat} (h : TRf w b base v N cs) (hb : base' ≤ base) : TRf w b base' v N cs := ⟨h.blk, h.sl.mono hb, h.top, h.small⟩

set_option maxRecDepth 100000 in
theorem tRNew_ok (w : World) (h1 : 1 ≤ N) (h2 : N ≤ 64) : Calls Try.prog 18 #[.int .i64 (N : Int)] w fun e w' => e = .returned (.tuple #[.pointer (some ⟨w.heap.size, 0, none⟩), .int .i64 0]) ∧ TRf w' w.heap.size w.heap.size (.slice none 0 0) N [] ∧ OnlyIn [] w w' := by
  go_enter Try.func18, Try.ntmps18
  go_wp2
  go_ret2
  exact ⟨rfl, ⟨Blk.new w 61 [.int .i64 (N : Int), .slice none 0 0], Sl.nil _ _ _ _, h2, by simp⟩, by (repeat (first | (with_reducible assumption) | (with_reducible exact OnlyIn.refl _ _) | (with_reducible refine OnlyIn.setCell ?_ (by first | simp | (simp; omega)) _) | (with_reducible refine OnlyIn.drewN ?_ _) | (with_reducible refine OnlyIn.drew ?_) | (with_reducible refine OnlyIn.alloc ?_ _)))⟩
set_option maxRecDepth 100000 in
theorem tRNew_bad (w : World) (x : Int) (h : x < 1 ∨ 64 < x) : Calls Try.prog 18 #[.int .i64 x] w fun e w' => e = .returned (.tuple #[.pointer none, .int .i64 3]) ∧ w = w' := by
  by_cases h1 : x < 1
  · go_enter Try.func18, Try.ntmps18
    go_wp2
    go_ret2
    exact ⟨rfl, rfl⟩
  · have h2 : 64 < x := by omega
    go_enter Try.func18, Try.ntmps18
    go_wp2
    go_ret2
    exact ⟨rfl, rfl⟩
theorem getD_in {l : List Int} {k : Nat} (h : k < l.length) : l[k]'h = l.getD k 0 := by rw [List.getD_eq_getElem?_getD, List.getElem?_eq_getElem h]; rfl

set_option maxRecDepth 100000 in
theorem tRLive_any (w : World) (h : TRf w b base v N cs) (hbase : base ≤ w.heap.size) : Calls Try.prog 27 #[.pointer (some ⟨b, 0, none⟩)] w fun e w' => ∃ u, e = .returned u ∧ Sl w' w.heap.size 3 1 u (liveOf cs).length (intCells (liveOf cs)) ∧ OnlyIn [] w w' := by
  obtain ⟨i0, hi0, hz0, hz1, hz2⟩ := info_parts Try.infoTI
  have hsm := h.small
  obtain ⟨A, c, rfl, hc⟩ := h.sl.val
  obtain ⟨n, hn⟩ : ∃ n, cs.length = n := ⟨_, rfl⟩
  have HL := Lib.hid hn
  have h' := h
  rw [hn] at hsm
  have hb1 : Blk w b 61 [.int .i64 (N : Int), .slice A n c] := by rw [← hn]; exact h.blk
  have HH := Lib.hid h
  clear h h' hn
  go_enter Try.func27, Try.ntmps27
  go_wp2_with fail
  go_loopw [3, 4] (fun o i wr => ∃ k : Nat, k ≤ n ∧ i = .int .i64 (k : Int) ∧ OnlyIn [] w wr ∧ Sl wr w.heap.size 3 1 o (liveTo cs k).length (intCells (liveTo cs k))) (fun _ i _ => n - (RowKit.intOf i).toNat)
  case atStart => exact ⟨0, by omega, rfl, by (repeat (first | (with_reducible assumption) | (with_reducible exact OnlyIn.refl _ _) | (with_reducible refine OnlyIn.setCell ?_ (by first | simp | (simp; omega)) _) | (with_reducible refine OnlyIn.drewN ?_ _) | (with_reducible refine OnlyIn.drew ?_) | (with_reducible refine OnlyIn.alloc ?_ _))), Sl.nil _ _ _ _⟩
  case round =>
    obtain ⟨k, hk, rfl, hto, hs⟩ := hrel
    have hb2 := hb1.only hto (by simp)
    have c1 := hb2.cell (i := 1) rfl
    obtain ⟨A2, c2, rfl, hc2⟩ := hs.val
    have hle := liveTo_le cs k
    by_cases hlt : k < n
    · have hkl : k < cs.length := by rw [HL.out]; exact hlt
      obtain ⟨g, off, cap, hv, _, _, _⟩ := (HH.out).sl.form (by omega)
      injection hv with hA _ hcc
      subst hA hcc
      have q0 := hto.cell ((HH.out).sl.cell_at (g := g) (off := off) (cap := c) rfl (intCells_get hkl)) (by simp)
      rw [getD_in hkl] at q0
      have hmeas : n - (k + 1) < n - k := by omega
      have hk1 : k + 1 ≤ n := by omega
      by_cases hz : cs.getD k 0 = 0
      · rw [hz] at q0
        have HT := Lib.hid (liveTo_yes hz)
        have hs' := hs.alloc (.cells (intCells [((k : Int) + 1)]).toArray 3)
        have hrd := Rd.lit wr (intCells [((k : Int) + 1)]) 3 1 (size := 1) rfl
        have hbw : w.heap.size ≤ wr.heap.size := hto.size
        clear hs hz
        go_wp2_with (at_builtin; refine wpList_append_sl rfl _ _ 36 rfl w.heap.size 3 i0 _ 1 8 Try.underlying36 hi0 hz0 hz1 hz2 rfl (by decide) (.slice A2 _ c2) _ _ rfl hs' _ 1 _ rfl hrd (intCells_one _) (by simp only [maxLen]; omega) (by omega) (by simp; omega) ?_; intro v5 w5 hs5 hg5 hat5)
        go_roundw
        case rel =>
          refine ⟨k + 1, hk1, by go_num, (hto.alloc _).grown hg5 (fun g hg => .inr (hs'.own_lt g hg).1), ?_⟩
          rw [HT.out, intCells_append, List.length_append]
          exact hs5
        case measure => simp [RowKit.intOf]; exact hmeas
      · have hd : (cs.getD k 0 == 0) = false := by simpa using hz
        have HT := Lib.hid (And.intro (liveTo_no hz) (And.intro hs hto))
        generalize cs.getD k 0 = z at q0 hd
        clear hz hs
        go_wp2_with fail
        go_roundw
        case rel =>
          refine ⟨k + 1, hk1, by go_num, HT.out.2.2, ?_⟩
          rw [HT.out.1]
          exact HT.out.2.1
        case measure => simp [RowKit.intOf]; exact hmeas
    · obtain rfl : k = n := by omega
      go_wp2_with fail
      go_ret
      refine ⟨_, rfl, ?_, hto⟩
      have : liveOf cs = liveTo cs k := by unfold liveOf; rw [HL.out]
      rw [this]
      exact hs

set_option maxRecDepth 100000 in
theorem tROpen_full (w : World) (h : TRf w b base v N cs) (hbase : base ≤ w.heap.size) (hf : N ≤ (liveOf cs).length) : Calls Try.prog 19 #[.pointer (some ⟨b, 0, none⟩)] w fun e w' => e = .returned (.tuple #[.int .i64 0, .int .i64 15]) ∧ OnlyIn [] w w' := by
  have c0 := h.blk.cell (i := 0) rfl
  have hti := h.top
  have hle := liveOf_le cs
  have hsm := h.small
  have hf' : decide ((N : Int) ≤ ((liveOf cs).length : Int)) = true := decide_eq_true (by omega)
  have hf3 : decide (N ≤ (liveOf cs).length) = true := decide_eq_true (by omega)
  have hcall := fun W (hW : OnlyIn [] w W) => tRLive_any W (h.only0 hW) (Nat.le_trans hbase hW.size)
  generalize (liveOf cs).length = m at *
  clear h
  go_enter Try.func19, Try.ntmps19
  go_wp2_with fail
  (first | (go_region_with ((go_at_call 27; refine (hcall _ (by (repeat (first | (with_reducible assumption) | (with_reducible exact OnlyIn.refl _ _) | (with_reducible refine OnlyIn.setCell ?_ (by first | simp | (simp; omega)) _) | (with_reducible refine OnlyIn.drewN ?_ _) | (with_reducible refine OnlyIn.drew ?_) | (with_reducible refine OnlyIn.alloc ?_ _))))).mono ?_; rintro e w1 ⟨u, rfl, hs, ht⟩; obtain ⟨A, c, rfl, hc⟩ := hs.val; have d0 := ht.cell c0 (by simp)))) | fail)
  all_goals
    go_wp2_with fail
    go_ret2
    exact ⟨rfl, ((OnlyIn.refl _ _).drew).trans ht⟩
set_option maxRecDepth 100000 in
theorem tROpen_room (w : World) (h : TRf w b base v N cs) (hbase : base ≤ w.heap.size) (hf : (liveOf cs).length < N) (hcs : cs.length < 100000) : Calls Try.prog 19 #[.pointer (some ⟨b, 0, none⟩)] w fun e w' => e = .returned (.tuple #[.int .i64 ((cs.length : Int) + 1), .int .i64 0]) ∧ ∃ v', TRf w' b base v' N (cs ++ [0]) ∧ OnlyIn (b :: v.ownBlock.toList) w w' ∧ (∀ g, v'.ownBlock = some g → v.ownBlock = some g ∨ w.heap.size ≤ g) := by
  obtain ⟨i0, hi0, hz0, hz1, hz2⟩ := info_parts Try.infoTE
  have c0 := h.blk.cell (i := 0) rfl
  have hti := h.top
  have hf' : decide ((N : Int) ≤ ((liveOf cs).length : Int)) = false := decide_eq_false (by omega)
  have hf3 : decide (N ≤ (liveOf cs).length) = false := decide_eq_false (by omega)
  have hcall := fun W (hW : OnlyIn [] w W) => tRLive_any W (h.only0 hW) (Nat.le_trans hbase hW.size)
  obtain ⟨A2, c2, rfl, hc2⟩ := h.sl.val
  have c1 := h.blk.cell (i := 1) rfl
  generalize (liveOf cs).length = m at *
  have HH := Lib.hid h
  clear h
  go_enter Try.func19, Try.ntmps19
  go_wp2_with fail
  go_region_held3 (fun W => W.cell? ⟨b, 0, none⟩ = some (.int .i64 (N : Int)) ∧ W.cell? ⟨b, 1, none⟩ = some (.slice A2 cs.length c2)) (first | exact ⟨c0, c1⟩ | exact ⟨d0, d1⟩) ((go_at_call 27; refine (hcall _ (by (repeat (first | (with_reducible assumption) | (with_reducible exact OnlyIn.refl _ _) | (with_reducible refine OnlyIn.setCell ?_ (by first | simp | (simp; omega)) _) | (with_reducible refine OnlyIn.drewN ?_ _) | (with_reducible refine OnlyIn.drew ?_) | (with_reducible refine OnlyIn.alloc ?_ _))))).mono ?_; rintro e w1 ⟨u, rfl, hs, ht⟩; obtain ⟨A, c, rfl, hc⟩ := hs.val; have d0 := ht.cell c0 (by simp); have d1 := ht.cell c1 (by simp)))
  rename_i hHeld
  have h2147 : decide ((2147483647 : Int) ≤ (cs.length : Int)) = false := decide_eq_false (by omega)
  rw [h2147]
  clear h2147
  have ht2 := ((OnlyIn.refl [] w).drew).trans ht
  have h1 := HH.out.only0 ht2
  have hbs := ht2.size
  have hb1 := h1.blk.lt
  have hne := h1.blk.ne_own h1.sl (by decide)
  have hs' := h1.sl.alloc (.cells (intCells [0]).toArray 26)
  have hbb := h1.blk.alloc (.cells (intCells [0]).toArray 26)
  have hrd := Rd.lit w1 (intCells [0]) 26 1 (size := 1) rfl
  have HT := Lib.hid (And.intro ht2 (And.intro h1 hs))
  clear hs ht ht2 h1 hcall c0 c1 d0 hHeld hf' hf3
  have hw : IntKind.i64.wrap ((cs.length : Int) + 1) = (cs.length : Int) + 1 := by rw [IntKind.wrap_i64]; omega
  go_wp2_with (at_builtin; refine wpList_append_sl rfl _ _ 29 rfl base 26 i0 _ 1 8 Try.underlying29 hi0 hz0 hz1 hz2 rfl (by decide) (.slice A2 _ c2) _ _ rfl hs' _ 1 _ rfl hrd (intCells_one _) (by simp only [maxLen]; omega) (by omega) (by simp; omega) ?_; intro v5 w5 hs5 hg5 hat5; obtain ⟨A5, c5, rfl, hc5⟩ := hs5.val; have hb5 := hbb.grown hg5 hne; have e1 := hb5.cell (i := 1) rfl; have f5 := hb5.free 1)
  go_ret2
  obtain ⟨ht, h1, -⟩ := HT.out
  have hti := h1.top
  refine ⟨rfl, _, ⟨hb5.set 1 _, ?_, h1.top, by simp; omega⟩, ?_, fun g hg => ?_⟩
  · rw [intCells_append, List.length_append]
    exact hs5.setCell (p := ⟨b, 1, none⟩) (hs5.ne_blk hb5 (by decide)) _
  · exact ((((ht.mono (S' := b :: (Value.slice A2 cs.length c2).ownBlock.toList) (by simp)).alloc _).grown hg5 (fun k hk => .inl (by simp [hk]))).setCell (.inl (by simp)) _)
  · rcases hat5 g hg with h2 | h2
    · exact .inl h2
    · simp at h2
      exact .inr (by omega)
set_option maxRecDepth 100000 in
theorem tRCause_any (w : World) (h : TRf w b base v N cs) (x : Int) (hx : -9223372036854775808 ≤ x ∧ x ≤ 9223372036854775807) : Calls Try.prog 28 #[.pointer (some ⟨b, 0, none⟩), .int .i64 x] w fun e w' => e = .returned (.tuple #[.int .i64 (causeA cs x).1, .int .i64 (causeA cs x).2]) ∧ OnlyIn [] w w' := by
  obtain ⟨A, c, rfl, hc⟩ := h.sl.val
  have c1 := h.blk.cell (i := 1) rfl
  have hsm := h.small
  by_cases h1 : 1 ≤ x
  · by_cases h2 : x ≤ cs.length
    · obtain ⟨k, rfl⟩ : ∃ k : Nat, x = (k : Int) + 1 := ⟨(x - 1).toNat, by omega⟩
      have hk : k < cs.length := by omega
      obtain ⟨g, off, cap, hv, _, _, _⟩ := h.sl.form (by omega)
      injection hv with hA _ hcc
      subst hA hcc
      have q0 := h.sl.cell_at (g := g) (off := off) (cap := c) rfl (intCells_get hk)
      rw [getD_in hk] at q0
      rw [causeA_in hk]
      generalize cs.getD k 0 = z at *
      have hki : (k : Int) < (cs.length : Int) := by omega
      generalize cs.length = m at *
      clear h
      go_enter Try.func28, Try.ntmps28
      go_wp2_with fail
      go_ret2
      exact ⟨rfl, OnlyIn.refl _ _⟩
    · rw [causeA_out (by omega)]
      clear h
      go_enter Try.func28, Try.ntmps28
      go_wp2_with fail
      go_ret2
      exact ⟨rfl, OnlyIn.refl _ _⟩
  · rw [causeA_out (by omega)]
    clear h
    go_enter Try.func28, Try.ntmps28
    go_wp2_with fail
    go_ret2
    exact ⟨rfl, OnlyIn.refl _ _⟩
set_option maxRecDepth 100000 in
theorem tREnd_any (w : World) (h : TRf w b base v N cs) (x : Int) (hx : -9223372036854775808 ≤ x ∧ x ≤ 9223372036854775807) (z : Int) : Calls Try.prog 20 #[.pointer (some ⟨b, 0, none⟩), .int .i64 x, .int .i64 z] w fun e w' => e = Ending.returned (.int .i64 (endE cs x z)) ∧ TRf w' b base v N (endS cs x z) ∧ OnlyIn v.ownBlock.toList w w' := by
  have hstay : ∀ r, r ≠ 0 → endE cs x z = r → ∀ e w', e = Ending.returned (.int .i64 r) → w = w' → e = Ending.returned (.int .i64 (endE cs x z)) ∧ TRf w' b base v N (endS cs x z) ∧ OnlyIn v.ownBlock.toList w w' := by
    rintro r hr he e w' rfl rfl
    refine ⟨by rw [he], ?_, OnlyIn.refl _ _⟩
    unfold endS
    rw [he, if_neg hr]
    exact h
  obtain ⟨A, c, hv, hc⟩ := h.sl.val
  subst hv
  have c1 := h.blk.cell (i := 1) rfl
  have hsm := h.small
  by_cases hz : z = 0
  · subst hz
    have HS := Lib.hid (hstay 2 (by decide) (endE_zero _ _))
    clear hstay h
    go_enter Try.func20, Try.ntmps20
    go_wp2_with fail
    go_ret
    exact HS.out _ _ rfl rfl
  · have hz2 : (z == 0) = false := by simpa using hz
    by_cases h1 : 1 ≤ x
    · by_cases h2 : x ≤ cs.length
      · obtain ⟨k, rfl⟩ : ∃ k : Nat, x = (k : Int) + 1 := ⟨(x - 1).toNat, by omega⟩
        have hk : k < cs.length := by omega
        obtain ⟨g, off, cap, hv, _, _, _⟩ := h.sl.form (by omega)
        injection hv with hA _ hcc
        subst hA hcc
        have q0 := h.sl.cell_at (g := g) (off := off) (cap := c) rfl (intCells_get hk)
        have f0 := h.sl.free_at (g := g) (off := off) (cap := c) rfl (off + k)
        rw [getD_in hk] at q0
        have hki : (k : Int) < (cs.length : Int) := by omega
        have hko : ((k : Int) + 1 - 1) = (k : Int) := by omega
        by_cases h0 : cs.getD k 0 = 0
        · have he : endE cs ((k : Int) + 1) z = 0 := by rw [endE_in hz hk, if_pos h0]
          have hfin : ∀ e, e = Ending.returned (.int .i64 0) → e = .returned (.int .i64 (endE cs ((k : Int) + 1) z)) ∧ TRf (w.setCell ⟨g, off + k, none⟩ (.int .i64 z)) b base (.slice (some ⟨g, off, none⟩) cs.length c) N (endS cs ((k : Int) + 1) z) ∧ OnlyIn (Value.slice (some ⟨g, off, none⟩) cs.length c).ownBlock.toList w (w.setCell ⟨g, off + k, none⟩ (.int .i64 z)) := by
            rintro e rfl
            refine ⟨by rw [he], ?_, (OnlyIn.refl _ _).setCell (.inl (by simp [Value.ownBlock])) _⟩
            have hs := h.sl.stored rfl k (.int .i64 z)
            have hnb := h.blk.ne_own h.sl (by decide)
            unfold endS
            rw [he, if_pos rfl, show ((k : Int) + 1 - 1).toNat = k by omega]
            refine ⟨?_, ?_, h.top, by rw [List.length_set]; exact hsm⟩
            · exact h.blk.far (by simpa [Value.ownBlock] using hnb) _
            · rw [List.length_set]
              have : intCells (cs.set k z) = (intCells cs).set k (.int .i64 z) := by simp [intCells, List.map_set]
              rw [this]
              exact hs
          have HF := Lib.hid hfin
          rw [h0] at q0
          generalize cs.length = m at *
          clear hstay h hfin he
          go_enter Try.func20, Try.ntmps20
          go_wp2_with fail
          go_ret
          exact HF.out _ rfl
        · have HS := Lib.hid (hstay 19 (by decide) (by rw [endE_in hz hk, if_neg h0]))
          have hd : (cs.getD k 0 != 0) = true := by simpa using h0
          generalize cs.getD k 0 = y at q0 hd
          generalize cs.length = m at *
          clear hstay h h0
          go_enter Try.func20, Try.ntmps20
          go_wp2_with fail
          go_ret
          exact HS.out _ _ rfl rfl
      · have HS := Lib.hid (hstay 18 (by decide) (endE_out hz (by omega)))
        clear hstay h
        go_enter Try.func20, Try.ntmps20
        go_wp2_with fail
        go_ret
        exact HS.out _ _ rfl rfl
    · have HS := Lib.hid (hstay 18 (by decide) (endE_out hz (by omega)))
      clear hstay h
      go_enter Try.func20, Try.ntmps20
      go_wp2_with fail
      go_ret
      exact HS.out _ _ rfl rfl
end
end Go.Proofs.Ytoknnplfdhffnaa
