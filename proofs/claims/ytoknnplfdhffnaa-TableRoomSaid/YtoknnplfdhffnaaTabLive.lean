/-
  Package table: going through the live ones.
-/
import Derived.Test.YtoknnplfdhffnaaTab
import Derived.Test.YtoknnplfdhffnaaTabSort
import Derived.Test.YtoknnplfdhffnaaRange
namespace Go.Proofs.Ytoknnplfdhffnaa
open Go.RowKit Go.Mine Go.Shelf Go.Maps

attribute [local go_sem] Oper.semAt_some
theorem liveTo_end (cs : List Int) : liveTo cs cs.length = liveOf cs := rfl
theorem Try.infoTL : (Try.prog.info? 3).map (fun i => (i.zero, i.size, i.bytes)) = some (some (.int .i64 0), 1, 8) := by kernel_rfl

/-- The iterator: for every body that keeps the table, and what else it must keep. -/
theorem live1_any (l B0 b mb n N : Nat) (cs : List Int) (J : Option (Nat × Obj) → List Int → World → Prop)
    (hO : ∀ r m W, J r m W → TbAt W b mb n N cs ∧ Blk W B0 25 [.pointer (some ⟨b, 0, none⟩)])
    (hA : ∀ r m W W', J r m W → OnlyIn [] W W' → J r m W')
    (hS : ∀ W W' g o, J none [] W → OnlyIn [] W W' → W.heap.size ≤ g → W'.heap[g]? = some o → J (some (g, o)) [] W')
    (hK : ∀ g o m W, J (some (g, o)) m W → W.heap[g]? = some o)
    (hY : ∀ r m (x : Int) W, J r m W → x ∈ from1 cs.length → m.length < cs.length → YieldAt Fence.wide 0 Try.prog l #[.int .i64 x] W fun e W' => e = .returned (.bool true) ∧ J r (m ++ [x]) W')
    (W : World) (h0 : J none [] W) :
    Calls Try.prog 30 #[.func (.yield l) #[] #[], .pointer (some ⟨B0, 0, none⟩)] W fun e W' => (∃ v, e = .returned v) ∧ ∃ r, J r (liveOf cs) W' := by
  obtain ⟨ho, hb⟩ := hO none [] W h0
  have hc := hb.cell (i := 0) rfl
  have c2 := ho.blk.cell (i := 2) rfl
  have hsm := ho.small
  have HO := Lib.hid hO
  have HA := Lib.hid hA
  have HS := Lib.hid hS
  have HK := Lib.hid hK
  have HY := Lib.hid hY
  have H0 := Lib.hid h0
  clear hO hA hS hK hY h0
  refine (callsIn_wide (n := 0)).1 ?_
  refine callsIn_of_wp Try.func30 rfl trivial ?_ rfl
  simp only [Try.ntmps30, List.size_toArray, List.length_cons, List.length_nil, Nat.reduceAdd, Nat.reduceSub, Array.replicate_succ, Array.replicate_zero, List.push_toArray, List.append_toArray, List.nil_append, List.cons_append]
  gi_wp2
  refine ⟨trivial, rfl, callsIn_wide.2 ((tKeys_any W mb).mono ?_)⟩
  rintro e w1 ⟨rfl, rfl⟩
  gi_wp2_with fail
  refine ⟨trivial, rfl, callsIn_wide.2 ((tSorted_any W _ rfl ho).mono ?_)⟩
  rintro e w2 ⟨v, rfl, hs, ht⟩
  obtain ⟨r0, hJ0, hr0⟩ : ∃ r0, J r0 [] w2 ∧ ∀ g, v.ownBlock = some g → ∃ o, r0 = some (g, o) ∧ w2.heap[g]? = some o := by
    cases hv : v.ownBlock with
    | none => exact ⟨none, HA.out _ _ _ _ H0.out ht, by simp⟩
    | some g =>
      have hg := hs.own_lt g hv
      obtain ⟨o, ho⟩ : ∃ o, w2.heap[g]? = some o := ⟨_, Array.getElem?_eq_getElem hg.2⟩
      exact ⟨some (g, o), HS.out _ _ _ _ H0.out ht hg.1 ho, fun g' hg' => by injection hg' with hg'; subst hg'; exact ⟨o, rfl, ho⟩⟩
  have hkeep : ∀ m Wx, J r0 m Wx → Sl Wx W.heap.size 3 1 v cs.length (intCells (from1 cs.length)) := fun m Wx hJ =>
    hs.block fun g hg => by
      obtain ⟨o, hro, hwo⟩ := hr0 g hg
      subst hro
      rw [HK.out _ _ _ _ hJ, hwo]
  have HKP := Lib.hid hkeep
  obtain ⟨A, c, rfl, hcA⟩ := hs.val
  obtain ⟨len, hlen⟩ : ∃ len, cs.length = len := ⟨_, rfl⟩
  have HLN := Lib.hid hlen
  rw [hlen] at hsm
  clear hc c2 hb ho ht hkeep hr0 hs
  rw [hlen]
  clear hlen
  have hfld : ∀ (z : Int) (W : World), (Instr.field 56 (.agg #[.int .i64 z]) 0).run Try.prog W = .ok (.int .i64 z) W := by intro z W; first | rfl | kernel_rfl | go_simp
  gi_wp2
  gi_loopw [12] (fun p wr => ∃ k : Nat, k ≤ len ∧ p = .int .i64 (k : Int) ∧ J r0 (liveTo cs k) wr) (fun p _ => len - (RowKit.intOf p).toNat)
  case atStart => exact ⟨0, by omega, rfl, hJ0⟩
  case round =>
    clear hJ0
    obtain ⟨k, hk, rfl, hJ⟩ := hrel
    by_cases hlt : k < len
    · obtain ⟨ho, hb⟩ := HO.out _ _ _ hJ
      have hsl := HKP.out _ _ hJ
      have hkl : k < cs.length := by rw [HLN.out]; exact hlt
      obtain ⟨g, off, cap, hv, _, _, _⟩ := hsl.form (by omega)
      injection hv with hA _ hcc
      subst hA hcc
      have q0 := hsl.cell_at (g := g) (off := off) (cap := c) rfl (intCells_get (l := from1 cs.length) (i := k) (by rw [from1_length]; exact hkl))
      have hfx : (from1 cs.length)[k]'(by rw [from1_length]; exact hkl) = (k : Int) + 1 := by
        have h1 := from1_get hkl
        rw [List.getElem?_eq_getElem (by rw [from1_length]; exact hkl)] at h1
        injection h1
      rw [hfx] at q0
      have c0 := hb.cell (i := 0) rfl
      have c2 := ho.blk.cell (i := 2) rfl
      have hlk := ho.map.at (t := 46) Try.underlying3 Try.underlying46 (by kernel_rfl) ((k : Int) + 1) (by omega)
      rw [causeOf_in hkl] at hlk
      simp only [Option.getD] at hlk
      have hmeas : len - (k + 1) < len - k := by omega
      have hk1 : k + 1 ≤ len := by omega
      have hki : (k : Int) < (len : Int) := by omega
      have hw1 : IntKind.i64.wrap ((k : Int) + 1) = (k : Int) + 1 := by rw [IntKind.wrap_i64]; omega
      have hcap : (len : Int) ≤ (c : Int) := by rw [← HLN.out]; omega
      by_cases hz : cs.getD k 0 = 0
      · obtain ⟨fn, tmps, assign, body, hy, hR⟩ := HY.out _ _ ((k : Int) + 1) wr hJ (by rw [from1_mem]; omega) (by have := liveTo_le cs k; omega)
        rw [hz] at hlk
        have HZ := Lib.hid (liveTo_yes hz)
        clear hz hfx hsl hkl hJ ho hb
        gi_wp2_with fail
        refine ⟨rfl, hR.mono ?_⟩
        rintro e w3 ⟨rfl, hJ3⟩
        gi_wp2_with fail
        go_roundw
        case rel => exact ⟨k + 1, hk1, by go_num, by rw [HZ.out]; exact hJ3⟩
        case measure => simp [RowKit.intOf]; exact hmeas
      · have hd : (cs.getD k 0 == 0) = false := by simpa using hz
        have HZ := Lib.hid (And.intro (liveTo_no hz) hJ)
        generalize cs.getD k 0 = z at hlk hd
        clear hz hfx hsl hkl hJ ho hb
        gi_wp2_with fail
        refine ⟨fun _ h => (by cases h), ?_⟩
        gi_wp2_with fail
        go_roundw
        case rel => exact ⟨k + 1, hk1, by go_num, by rw [HZ.out.1]; exact HZ.out.2⟩
        case measure => simp [RowKit.intOf]; exact hmeas
    · obtain rfl : k = len := by omega
      have hfin : J r0 (liveOf cs) wr := by
        have : liveOf cs = liveTo cs k := by unfold liveOf; rw [HLN.out]
        rw [this]; exact hJ
      have HF := Lib.hid hfin
      clear hJ hfin
      gi_wp2_with fail
      go_end0
      exact ⟨⟨_, rfl⟩, _, HF.out⟩

set_option maxRecDepth 100000 in
theorem tLive_any (w : World) {b mb n N : Nat} {cs : List Int} (ho : TbAt w b mb n N cs) :
    Calls Try.prog 14 #[.pointer (some ⟨b, 0, none⟩)] w fun e w' => ∃ v, e = .returned v ∧ Sl w' w.heap.size 3 1 v (liveOf cs).length (intCells (liveOf cs)) ∧ OnlyIn [] w w' := by
  have hsm := ho.small
  obtain ⟨i0, hi0, hz0, hz1, hz2⟩ := info_parts Try.infoTL
  refine (callsIn_wide (n := 0)).1 ?_
  refine callsIn_of_wp_marks Try.func14 rfl trivial ?_ rfl
  simp only [Try.ntmps14, List.size_toArray, List.length_cons, List.length_nil, Nat.reduceAdd, Nat.reduceSub, Array.replicate_succ, Array.replicate_zero, List.push_toArray, List.append_toArray, List.nil_append, List.cons_append]
  gi_wp2_with fail
  refine ⟨trivial, rfl, callsIn_wide.2 ((tnone_no w ho).mono ?_)⟩
  rintro e w' ⟨rfl, rfl⟩
  gi_wp2_with fail
  have hR := Blk.new w 36 [.slice none 0 0]
  have hs : w.heap.size < (w.alloc (.cells #[.slice none 0 0] 36)).heap.size := by simp
  have ht1 : OnlyIn [] w (w.alloc (.cells #[.slice none 0 0] 36)) := (OnlyIn.refl _ _).alloc _
  obtain ⟨w1, hw1⟩ : ∃ w1, w.alloc (.cells #[.slice none 0 0] 36) = w1 := ⟨_, rfl⟩
  rw [hw1] at hs ht1 ⊢
  have hR1 : Blk w1 w.heap.size 36 [.slice none 0 0] := by rw [← hw1]; exact hR
  clear hw1 hR
  refine ⟨trivial, rfl, callsIn_wide.2 ((live_any (b := b) w1).mono ?_)⟩
  rintro e w' ⟨rfl, rfl⟩
  have hR2 := hR1.alloc (.cells #[.pointer (some ⟨b, 0, none⟩)] 25)
  have hP := Blk.new w1 25 [.pointer (some ⟨b, 0, none⟩)]
  have ht2 := ht1.alloc (.cells #[.pointer (some ⟨b, 0, none⟩)] 25)
  have ho2 := ho.only0 ht2
  obtain ⟨B0, hB0⟩ : ∃ B0, w1.heap.size = B0 := ⟨_, rfl⟩
  rw [hB0] at hP hs ⊢
  obtain ⟨w2, hw2⟩ : ∃ w2, w1.alloc (.cells #[.pointer (some ⟨b, 0, none⟩)] 25) = w2 := ⟨_, rfl⟩
  have hs2 : w.heap.size < w2.heap.size := by have := hR2.lt; rw [hw2] at this; exact this
  rw [show (World.alloc w1 (.cells [Value.pointer (some ⟨b, 0, none⟩)].toArray 25)) = w2 from hw2] at hP
  rw [hw2] at hR2 ht2 ho2 ⊢
  clear hw2 hB0 ho ht1 hR1
  gi_wp2_with fail
  refine wpIn_range2 (gf := 30) (lb := #[.pointer (some ⟨B0, 0, none⟩)]) rfl (enters_of Try.func30 (by kernel_rfl) rfl) ?_
  intro rc hround
  refine (live1_any (w2.heap.size + 1) B0 b mb n N cs
    (fun r m W => InLoop w2 W (.loop (rc .ready none)) ∧ OnlyIn [] w W ∧ TbAt W b mb n N cs ∧ Blk W B0 25 [.pointer (some ⟨b, 0, none⟩)] ∧ (∃ v, Blk W w.heap.size 36 [v] ∧ Sl W w.heap.size 3 1 v m.length (intCells m) ∧ ∀ g o, r = some (g, o) → v.ownBlock ≠ some g) ∧ ∀ g o, r = some (g, o) → W.heap[g]? = some o ∧ w2.heap.size + 1 < g) ?hO ?hA ?hS ?hK ?hY _ ?h0).mono ?_
  case hO => exact fun r m W hJ => ⟨hJ.2.2.1, hJ.2.2.2.1⟩
  case hA =>
    rintro r m W W' ⟨j1, j2, j3, j4, ⟨v, j5, j6, j7⟩, j8⟩ ht
    exact ⟨j1.only ht (by simp) (by simp), j2.trans ht, j3.only0 ht, j4.only ht (by simp), ⟨v, j5.only ht (by simp), j6.only ht (by simp), j7⟩, fun g o hr => ⟨(ht.block g (Array.getElem?_eq_some_iff.1 (j8 g o hr).1).1 (by simp)).trans (j8 g o hr).1, (j8 g o hr).2⟩⟩
  case hS =>
    rintro W W' g o ⟨j1, j2, j3, j4, ⟨v, j5, j6, j7⟩, j8⟩ ht hg ho
    have hr := (Array.getElem?_eq_some_iff.1 j1.rec_).1
    refine ⟨j1.only ht (by simp) (by simp), j2.trans ht, j3.only0 ht, j4.only ht (by simp), ⟨v, j5.only ht (by simp), j6.only ht (by simp), ?_⟩, ?_⟩
    · intro g' o' hh hv
      injection hh with hh
      injection hh with h1 h2
      subst h1
      have := (j6.own_lt g hv).2
      omega
    · intro g' o' hh
      injection hh with hh
      injection hh with h1 h2
      subst h1 h2
      exact ⟨ho, by omega⟩
  case hK => exact fun g o m W hJ => (hJ.2.2.2.2.2 g o rfl).1
  case h0 =>
    refine ⟨InLoop.start _ _, (ht2.alloc _).alloc _, (ho2.alloc _).alloc _, (hP.alloc _).alloc _, ⟨_, (hR2.alloc _).alloc _, Sl.nil _ _ _ _, fun _ _ h => by cases h⟩, fun _ _ h => by cases h⟩
  case hY =>
    rintro r m x W ⟨hI, ht, hT, hb, ⟨v, hv, hsl, hvr⟩, hrr⟩ hx hm
    refine hround _ W _ rfl hI.rec_ ?_
    gi_wp2_with fail
    refine ⟨hI.rec_, ?_⟩
    have hI2 := hI.put (.loop (rc .busy none))
    have htp : OnlyIn [w2.heap.size + 1] W (W.putObj (w2.heap.size + 1) (.loop (rc .busy none))) := (OnlyIn.refl _ _).putObj (.inl (by simp)) _
    obtain ⟨Wc, hWc⟩ : ∃ Wc, W.putObj (w2.heap.size + 1) (.loop (rc .busy none)) = Wc := ⟨_, rfl⟩
    rw [hWc] at hI2 htp ⊢
    clear hWc
    have hbw := ht.size
    have hv2 := hv.only htp (by simp; omega)
    have hne := hv2.ne_own (hsl.only htp (fun g hg => by
      simp only [List.mem_singleton]
      rintro rfl
      exact hsl.ne_obj hI.rec_ hg)) (by decide)
    have hsl2 := hsl.only htp (fun g hg => by
      simp only [List.mem_singleton]
      rintro rfl
      exact hsl.ne_obj hI.rec_ hg)
    have ht3 : OnlyIn [] w Wc := ht.then htp (by simp; omega)
    have hB0n : B0 ≠ w2.heap.size + 1 := by
      rintro rfl
      have := hI.rec_
      rw [hb] at this
      cases this
    have hT2 := hT.blk.only htp (by
      simp only [List.mem_singleton]
      rintro rfl
      have := hI.rec_
      rw [hT.blk] at this
      cases this)
    have hM2 := hT.map.only htp (by
      simp only [List.mem_singleton]
      rintro rfl
      obtain ⟨D, ⟨es, clock, hbm, _⟩, _⟩ := hT.map
      rw [hI.rec_] at hbm
      cases hbm)
    have hb2 := hb.only htp (by simpa using hB0n)
    have c0 := hv2.cell (i := 0) rfl
    have hf := hv2.free 0
    have hbs : w.heap.size ≤ Wc.heap.size := ht3.size
    have hTT : TbAt Wc b mb n N cs := ⟨hT2, hM2, hT.pos, hT.top, hT.small, hT.sn⟩
    have HRR := Lib.hid (And.intro hvr hrr)
    have hmx : m.length < 100000 := by omega
    have HT := Lib.hid (And.intro hTT (And.intro hb2 htp))
    have HW := Lib.hid (And.intro hI ht)
    clear hT hb hsl hv hT2 hM2 hI ht htp hTT hb2 hvr hrr
    gi_wp2_with (gi_at_builtin; refine wpListIn_append_sl rfl _ _ 36 rfl w.heap.size 3 i0 _ 1 8 Try.underlying36 hi0 hz0 hz1 hz2 rfl (by decide) v m.length _ rfl (hsl2.alloc _) _ 1 (intCells [x]) rfl (Rd.lit Wc (intCells [x]) 3 1 (size := 1) rfl) (intCells_one _) (by simp only [maxLen]; omega) (by omega) (by simp; omega) ?_; intro v' w5 hs' hg' hat'; obtain ⟨A, c, rfl, hc⟩ := hs'.val; have hv3 := (hv2.alloc _).grown hg' hne; have c3 := hv3.cell (i := 0) rfl; have f3 := hv3.free 0)
    obtain ⟨hI, ht⟩ := HW.out
    obtain ⟨hTT, hb2, htp⟩ := HT.out
    obtain ⟨hvr, hrr⟩ := HRR.out
    have hI3 := ((hI2.alloc (.cells #[.int .i64 x] 3)).grown hg' (fun g hg => (hsl2.alloc _).type_ g hg |>.imp fun cur h => ⟨_, h⟩)).setCell hv3 0 (.slice A (m.length + 1) c)
    have ht4 : OnlyIn [] w (w5.setCell ⟨w.heap.size, 0, none⟩ (.slice A (m.length + 1) c)) := ((ht3.alloc _).grown hg' (fun g hg => .inr (hsl2.own_lt g hg).1)).setCell (.inr (Nat.le_refl _)) _
    have hs2 := hs'.setCell (p := ⟨w.heap.size, 0, none⟩) (hs'.ne_blk hv3 (by decide)) (.slice A (m.length + 1) c)
    have hv4 := hv3.set 0 (.slice A (m.length + 1) c)
    have htz : OnlyIn (w.heap.size :: v.ownBlock.toList) Wc (w5.setCell ⟨w.heap.size, 0, none⟩ (.slice A (m.length + 1) c)) := (((OnlyIn.refl _ _).alloc _).grown hg' (fun k hk => .inl (by simp [hk]))).setCell (.inl (by simp)) _
    have hvb : v.ownBlock ≠ some b := hsl2.ne_blk hTT.blk (by decide)
    have hvB : v.ownBlock ≠ some B0 := hsl2.ne_blk hb2 (by decide)
    have hvm : v.ownBlock ≠ some mb := fun e => by
      obtain ⟨cur, hc⟩ := hsl2.type_ _ e
      exact hTT.map.ne_cells hc rfl
    have hwb : b ≠ w.heap.size := hTT.blk.ne_ hv2 (by decide)
    have hwB : B0 ≠ w.heap.size := hb2.ne_ hv2 (by decide)
    have hwm : mb ≠ w.heap.size := hTT.map.ne_blk hv2
    have hnot : ∀ {g : Nat}, g ≠ w.heap.size → v.ownBlock ≠ some g → g ∉ w.heap.size :: v.ownBlock.toList := fun h1 h2 hm => by
      simp only [List.mem_cons, Option.mem_toList] at hm
      rcases hm with hm | hm
      · exact h1 hm
      · exact h2 hm
    have hlr := (Array.getElem?_eq_some_iff.1 hI.rec_).1
    have htl : OnlyIn [w2.heap.size + 1] (w5.setCell ⟨w.heap.size, 0, none⟩ (.slice A (m.length + 1) c)) ((w5.setCell ⟨w.heap.size, 0, none⟩ (.slice A (m.length + 1) c)).putObj (w2.heap.size + 1) (.loop (rc .ready none))) := (OnlyIn.refl _ _).putObj (.inl (by simp)) _
    have hT5 := hTT.only htz (hnot hwb hvb) (hnot hwm hvm)
    have hb5 := hb2.only htz (hnot hwB hvB)
    refine ⟨hI3.rec_, rfl, hI3.put _, ht4.putObj (.inr (by omega)) _, hT5.only htl ?_ ?_, hb5.only htl (by simpa using hB0n), ⟨_, hv4.putObj (by omega) _, ?_, ?_⟩, ?_⟩
    · simp only [List.mem_singleton]
      rintro rfl
      have := hI3.rec_
      rw [hT5.blk] at this
      cases this
    · simp only [List.mem_singleton]
      rintro rfl
      obtain ⟨D, ⟨es, clock, hbm, _⟩, _⟩ := hT5.map
      rw [hI3.rec_] at hbm
      cases hbm
    · have h9 := hs2.only htl (fun g hg => by
        simp only [List.mem_singleton]
        rintro rfl
        exact hs2.ne_obj hI3.rec_ hg)
      simp only [intCells_append]
      exact h9
    · intro g o hr he
      rcases hat' g he with h1 | h1
      · exact hvr g o hr h1
      · have h2 := (hrr g o hr).1
        have h3 := (Array.getElem?_eq_some_iff.1 h2).1
        have h4 := htp.size
        simp only [World.size_alloc] at h1
        omega
    · intro g o hr
      obtain ⟨h2, h3⟩ := hrr g o hr
      have h5 := (Array.getElem?_eq_some_iff.1 h2).1
      refine ⟨?_, h3⟩
      have e1 := htp.block g h5 (by simp; omega)
      have h6 := Nat.lt_of_lt_of_le h5 htp.size
      have e2 := htz.block g h6 (hnot (by have := hI2.rec_; omega) (hvr g o hr))
      have h7 := Nat.lt_of_lt_of_le h6 htz.size
      have e3 := htl.block g h7 (by simp; omega)
      rw [e3, e2, e1, h2]
  rintro e W2 ⟨⟨v, rfl⟩, r, hI, ht, hT, hb, ⟨v, hv, hsl, hvr⟩, hrr⟩
  refine ⟨⟨_, rfl⟩, .inl ⟨hI.rec_, ?_⟩⟩
  have hbw := ht.size
  have hI2 := hI.put (.loop (rc .exhausted none))
  have hput : OnlyIn [w2.heap.size + 1] W2 (W2.putObj (w2.heap.size + 1) (.loop (rc .exhausted none))) := (OnlyIn.refl _ _).putObj (.inl (by simp)) _
  have ht3 : OnlyIn [] w (W2.putObj (w2.heap.size + 1) (.loop (rc .exhausted none))) := ht.then hput (by simp; omega)
  have hv2 := hv.only hput (by simp; omega)
  have hs3 := hsl.only hput (fun g hg => by
    simp only [List.mem_singleton]
    rintro rfl
    exact hsl.ne_obj hI.rec_ hg)
  obtain ⟨W3, hW3⟩ : ∃ W3, W2.putObj (w2.heap.size + 1) (.loop (rc .exhausted none)) = W3 := ⟨_, rfl⟩
  rw [hW3] at hI2 ht3 hv2 hs3 ⊢
  clear hput hW3 hv hsl ht hI hT hb hvr hrr
  obtain ⟨A, c, rfl, hc⟩ := hs3.val
  have c0 := hv2.cell (i := 0) rfl
  have f0 := hv2.free 0
  gi_wp2_with fail
  refine leave_marks (v := .slice A (liveOf cs).length c) (D := w2.heap.size) rfl hI2.dfr (by simp [results, Try.results14, go_sem]) ?_
  refine ⟨_, rfl, hs3.only ((OnlyIn.refl [w2.heap.size] _).putObj (l := w2.heap.size) (.inl (by simp)) (.deferred none)) (fun g hg => ?_), ht3.putObj (.inr (by omega)) _⟩
  simp only [List.mem_singleton]
  rintro rfl
  obtain ⟨cur, hcc⟩ := hs3.type_ _ hg
  rw [hI2.dfr] at hcc
  cases hcc
end Go.Proofs.Ytoknnplfdhffnaa
