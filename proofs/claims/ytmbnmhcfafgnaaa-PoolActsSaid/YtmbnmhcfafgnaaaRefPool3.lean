/-
  Law 23's reference: Release, Acquire, Reclaim.
-/
import Derived.Test.YtmbnmhcfafgnaaaRefPool2
namespace Go.Proofs.Ytmbnmhcfafgnaaa
open Go.RowKit Go.Mine
section
variable {w w1 w' : World} {base b lb N : Nat} {q : Int} {R R1 : List RRow} {S : List Nat} {H : Int} {fs fs' : List Fr}

theorem RfGo.then_ (ht : OnlyIn [lb] w w1) (hl : ∀ k ∈ rOwn b lb R1, k ∈ rOwn b lb R ∨ w.heap.size ≤ k) (h : RfGo w1 w' base b lb N q R1 fs) : RfGo w w' base b lb N q R fs := by
  obtain ⟨R2, h1, h2, h3, h4⟩ := h
  refine ⟨R2, h1, h2, ht.trans h3, fun k hk => ?_⟩
  rcases h4 k hk with hh | hh
  · exact hl k hh
  · exact .inr (Nat.le_trans ht.size hh)
/-- Handles and owner of a frame, written one behind the other. -/
theorem RfAt.put3 (h : RfAt w base b lb N q R) {i : Nat} (hi : i < N) (o x : Int) : RfGo w ((w.setCell ⟨lb, i * 3 + 1, none⟩ (.int .i64 x)).setCell ⟨lb, i * 3, none⟩ (.int .i64 o)) base b lb N q R ((rFs R).set i ⟨o, x, (frAt (rFs R) i).data⟩) := by
  obtain ⟨bo, hr⟩ := h.row hi
  have ht : OnlyIn [lb] w ((w.setCell ⟨lb, i * 3 + 1, none⟩ (.int .i64 x)).setCell ⟨lb, i * 3, none⟩ (.int .i64 o)) := ((OnlyIn.refl _ _).setCell (.inl (by simp)) _).setCell (.inl (by simp)) _
  have ha := (h.arr.set (i * 3 + 1) (.int .i64 x)).set (i * 3) (.int .i64 o)
  have hil : i < R.length := by rw [h.len]; exact hi
  have e1 := rset (i := i) (R := R.set i (⟨(frAt (rFs R) i).owner, x, (frAt (rFs R) i).data⟩, bo)) (x := (⟨(frAt (rFs R) i).owner, x, (frAt (rFs R) i).data⟩, bo)) (List.getElem?_set_self hil) 0 (by omega) (.int .i64 o) (y := (⟨o, x, (frAt (rFs R) i).data⟩, bo)) rfl
  rw [Nat.add_zero] at e1
  rw [rset hr 1 (by omega) (.int .i64 x) (y := (⟨(frAt (rFs R) i).owner, x, (frAt (rFs R) i).data⟩, bo)) rfl, e1, List.set_set] at ha
  obtain ⟨h1, h2⟩ := h.put hr (f' := ⟨o, x, (frAt (rFs R) i).data⟩) rfl ht ha
  exact ⟨_, h1, rFs_set _ _ _, ht, fun k hk => .inl (h2 k hk)⟩

set_option maxRecDepth 100000 in
theorem ref_release (h : RfAt w base b lb N q R) (hk : OkF (rFs R) H) (hH : H ≤ 1000000) (n o : Int) :
    Calls Try.prog 62 #[.pointer (some ⟨b, 0, none⟩), .int .i64 n, .int .i64 o] w fun e w' => e = .returned (.int .i64 (whyF (rFs R) n o)) ∧ RfGo w w' base b lb N q R (relF (rFs R) n o) := by
  have hre := ref_refuses h n o
  have c0 := h.blk.cell (i := 0) rfl
  obtain ⟨r, hr⟩ : ∃ r, whyF (rFs R) n o = r := ⟨_, rfl⟩
  unfold relF
  rw [hr] at hre ⊢
  by_cases h0 : r = 0
  · subst h0
    obtain ⟨i, rfl, hi, -, -⟩ := whyF_ok hr
    rw [if_pos rfl, Int.toNat_natCast]
    have hb := hk i hi
    rw [h.fl] at hi
    obtain ⟨bo, hrow⟩ := h.row hi
    obtain ⟨d0, d1, -⟩ := h.cell hrow
    have f0 := h.arr.free (i * 3)
    have f1 := h.arr.free (i * 3 + 1)
    have hbl : b ≠ lb := h.blk.ne_ h.arr (by decide)
    have hbl' : ¬ lb = b := fun e => hbl e.symm
    have d00 := d0
    obtain ⟨z0, hz0⟩ : ∃ z, (frAt (rFs R) i).owner = z := ⟨_, rfl⟩
    rw [hz0] at d0
    by_cases h1 : (frAt (rFs R) i).handles = 1
    · rw [if_pos h1]
      have HG := Lib.hid (h.put3 hi 0 0)
      rw [h1] at d1
      clear h hr hk hb hrow d00 hz0
      go_enter Try.func62, Try.ntmps62
      go_wp2_with (refine hre.mono ?_; rintro e w' ⟨rfl, rfl⟩)
      go_ret
      exact ⟨rfl, HG.out⟩
    · rw [if_neg h1]
      have HG := Lib.hid (h.put1 hi ((frAt (rFs R) i).handles - 1))
      obtain ⟨z, hz⟩ : ∃ z, (frAt (rFs R) i).handles = z := ⟨_, rfl⟩
      rw [hz] at d1 hb h1
      have hw : IntKind.i64.wrap (z - 1) = (frAt (rFs R) i).handles - 1 := by rw [IntKind.wrap_i64, hz]; omega
      have hne : (((frAt (rFs R) i).handles - 1) == 0) = false := by rw [hz]; simp; omega
      generalize (frAt (rFs R) i).handles - 1 = z2 at hw HG hne ⊢
      clear h hr hk hb hrow hz h1 d00 hz0
      go_enter Try.func62, Try.ntmps62
      go_wp2_with (refine hre.mono ?_; rintro e w' ⟨rfl, rfl⟩)
      go_ret
      exact ⟨rfl, HG.out⟩
  · have d : (r != 0) = true := by simpa using h0
    rw [if_neg h0]
    have HS := Lib.hid h.stay
    clear h hr hk
    go_enter Try.func62, Try.ntmps62
    go_wp2_with (refine hre.mono ?_; rintro e w' ⟨rfl, rfl⟩)
    go_ret
    exact ⟨rfl, HS.out⟩

set_option maxRecDepth 100000 in
theorem ref_acquire (h : RfAt w base b lb N q R) (o : Int) :
    Calls Try.prog 60 #[.pointer (some ⟨b, 0, none⟩), .int .i64 o] w fun e w' => e = .returned (.tuple #[.int .i64 (acqN (rFs R) q o : Int), .int .i64 (acqE (rFs R) q o)]) ∧ RfGo w w' base b lb N q R (acqS (rFs R) q o) := by
  have hhd := fun m => ref_held (h.drew m) o
  have c0 := h.blk.cell (i := 0) rfl
  have c1 := h.blk.cell (i := 1) rfl
  have HH := Lib.hid h
  have HS := Lib.hid h.stay
  by_cases h1 : o < 1
  · have d1 : decide (o < 1) = true := decide_eq_true h1
    have e : acqE (rFs R) q o = 3 := if_neg (by omega)
    obtain ⟨e1, e2⟩ := acq_bad e (by decide)
    rw [e, e1, e2]
    clear h hhd
    go_enter Try.func60, Try.ntmps60
    go_wp2_with fail
    go_ret2
    exact ⟨rfl, HS.out⟩
  · have d1 : decide (o < 1) = false := decide_eq_false h1
    by_cases h2 : 2147483647 < o
    · have d2 : decide (2147483647 < o) = true := decide_eq_true h2
      have e : acqE (rFs R) q o = 3 := if_neg (by omega)
      obtain ⟨e1, e2⟩ := acq_bad e (by decide)
      rw [e, e1, e2]
      clear h hhd
      go_enter Try.func60, Try.ntmps60
      go_wp2_with fail
      go_ret2
      exact ⟨rfl, HS.out⟩
    · have d2 : decide (2147483647 < o) = false := decide_eq_false h2
      by_cases h3 : heldN (rFs R) o < q
      · have d3 : decide (q ≤ heldN (rFs R) o) = false := decide_eq_false (by omega)
        have hE : acqE (rFs R) q o = if freeI (rFs R) = [] then 15 else 0 := by
          unfold acqE
          rw [if_pos (by omega), if_pos h3]
        have HE := Lib.hid hE
        have hN := h.n64
        obtain ⟨hz, hhz⟩ : ∃ z, heldN (rFs R) o = z := ⟨_, rfl⟩
        rw [hhz] at hhd d3
        clear h hE h3 hhz
        go_enter Try.func60, Try.ntmps60
        go_wp2_with fail
        go_quiet (refine quiet_left (hhd _))
        rename_i nq
        have HT := Lib.hid (fun w' fs => RfGo.then_ (base := base) (b := b) (N := N) (q := q) (R := R) (fs := fs) (w' := w') (show OnlyIn [lb] w (w.drewN nq) by (repeat (first | (with_reducible assumption) | (with_reducible exact OnlyIn.refl _ _) | (with_reducible refine OnlyIn.setCell ?_ (by first | simp | (simp; omega)) _) | (with_reducible refine OnlyIn.drewN ?_ _) | (with_reducible refine OnlyIn.drew ?_) | (with_reducible refine OnlyIn.alloc ?_ _)))) (fun k hk => .inl hk))
        replace HH := Lib.hid (HH.out.drew nq)
        replace c0 : (w.drewN nq).cell? _ = _ := c0
        clear hhd c1 HS
        generalize w.drewN nq = w0 at HH HT c0 ⊢
        have HS := Lib.hid (HT.out _ _ HH.out.stay)
        go_wp2_with fail
        go_loopw [6] (fun i wr => ∃ k : Nat, k ≤ N ∧ i = .int .i64 (k : Int) ∧ Hid (∀ j, j < k → (frAt (rFs R) j).owner ≠ 0) ∧ wr = w0) (fun i _ => N - (RowKit.intOf i).toNat)
        case atStart => exact ⟨0, by omega, rfl, Lib.hid (fun j hj => by omega), rfl⟩
        case round =>
          obtain ⟨k, hk, rfl, HA, rfl⟩ := hrel
          by_cases hlt : k < N
          · obtain ⟨bo, hr⟩ := HH.out.row hlt
            obtain ⟨d0, dh, -⟩ := HH.out.cell hr
            have f0 := HH.out.arr.free (k * 3)
            have f1 := HH.out.arr.free (k * 3 + 1)
            have hbl : b ≠ lb := HH.out.blk.ne_ HH.out.arr (by decide)
            have hbl' : ¬ lb = b := fun e => hbl e.symm
            obtain ⟨z, hz⟩ : ∃ z, (frAt (rFs R) k).owner = z := ⟨_, rfl⟩
            rw [hz] at d0
            by_cases h0 : z = 0
            · subst h0
              have hm : k ∈ freeI (rFs R) := mem_freeI.2 ⟨by rw [HH.out.fl]; exact hlt, hz⟩
              obtain ⟨i, l, hl⟩ : ∃ i l, freeI (rFs R) = i :: l := by
                cases e : freeI (rFs R) with
                | nil => rw [e] at hm; cases hm
                | cons i l => exact ⟨i, l, rfl⟩
              have e0 : acqE (rFs R) q o = 0 := by rw [HE.out, hl]; rfl
              have hi := mem_freeI.1 (show i ∈ freeI (rFs R) by rw [hl]; exact List.mem_cons_self)
              have hik : i = k := by
                have h5 := freeI_least hl k hm
                by_cases e : i < k
                · exact absurd hi.2 (HA.out i e)
                · omega
              subst hik
              obtain ⟨e1, e2⟩ := acq_ok e0 hl
              have HG := Lib.hid (HT.out _ _ (HH.out.put2 hlt o 1))
              have HX := Lib.hid (And.intro e0 (And.intro e1 e2))
              clear hr hz hm hl e0 hi e1 e2
              go_wp2_with fail
              go_ret2
              rw [HX.out.1, HX.out.2.1, HX.out.2.2]
              exact ⟨rfl, HG.out⟩
            · have d : (z == 0) = false := by simpa using h0
              have HA' : Hid (∀ j, j < k + 1 → (frAt (rFs R) j).owner ≠ 0) := Lib.hid (fun j hj => by
                by_cases e : j = k
                · subst e; rw [hz]; exact h0
                · exact HA.out j (by omega))
              clear hr hz h0
              go_wp2_with fail
              go_roundw
              case rel => exact ⟨k + 1, by omega, by first | rfl | go_num, HA', by first | rfl | trivial⟩
              case measure => simp [RowKit.intOf]; omega
          · obtain rfl : N = k := by omega
            have hnil : freeI (rFs R) = [] := by
              rw [List.eq_nil_iff_forall_not_mem]
              intro j hj
              obtain ⟨h5, h6⟩ := mem_freeI.1 hj
              rw [HH.out.fl] at h5
              exact HA.out j h5 h6
            have e : acqE (rFs R) q o = 15 := by rw [HE.out, if_pos hnil]
            obtain ⟨e1, e2⟩ := acq_bad e (by decide)
            have HX := Lib.hid (And.intro e (And.intro e1 e2))
            clear hnil e e1 e2
            go_wp2_with fail
            go_ret2
            rw [HX.out.1, HX.out.2.1, HX.out.2.2]
            exact ⟨rfl, HS.out⟩
      · have d3 : decide (q ≤ heldN (rFs R) o) = true := decide_eq_true (by omega)
        have e : acqE (rFs R) q o = 17 := by
          unfold acqE
          rw [if_pos (by omega), if_neg h3]
        obtain ⟨e1, e2⟩ := acq_bad e (by decide)
        rw [e, e1, e2]
        obtain ⟨hz, hhz⟩ : ∃ z, heldN (rFs R) o = z := ⟨_, rfl⟩
        rw [hhz] at hhd d3
        clear h h3 hhz e e1 e2
        go_enter Try.func60, Try.ntmps60
        go_wp2_with fail
        go_quiet (refine quiet_left (hhd _))
        rename_i nq
        have HS := Lib.hid (RfGo.then_ (w' := w.drewN nq) (show OnlyIn [lb] w (w.drewN nq) by (repeat (first | (with_reducible assumption) | (with_reducible exact OnlyIn.refl _ _) | (with_reducible refine OnlyIn.setCell ?_ (by first | simp | (simp; omega)) _) | (with_reducible refine OnlyIn.drewN ?_ _) | (with_reducible refine OnlyIn.drew ?_) | (with_reducible refine OnlyIn.alloc ?_ _)))) (fun k hk => .inl hk) (HH.out.drew nq).stay)
        clear hhd c0 c1
        go_wp2_with fail
        go_ret2
        exact ⟨rfl, HS.out⟩

set_option maxRecDepth 100000 in
theorem ref_reclaim (h : RfAt w base b lb N q R) (o : Int) :
    Calls Try.prog 64 #[.pointer (some ⟨b, 0, none⟩), .int .i64 o] w fun e w' => e = .returned (.tuple #[.int .i64 (heldN (rFs R) o), .int .i64 0]) ∧ RfGo w w' base b lb N q R (recS (rFs R) o) := by
  have hfl := h.fl
  have hN := h.n64
  have HG := Lib.hid (show RfGo w w base b lb N q R (recK (rFs R) o 0) from h.stay)
  have HC := Lib.hid (recC_all (rFs R) o)
  have HF := Lib.hid hfl
  have HB := Lib.hid h.blk
  obtain ⟨fs, hfs⟩ : ∃ fs, rFs R = fs := ⟨_, rfl⟩
  unfold recS
  rw [hfs] at HG HC HF hfl ⊢
  rw [← HC.out, hfl]
  have c0 := h.blk.cell (i := 0) rfl
  clear h hfs hfl
  go_enter Try.func64, Try.ntmps64
  go_wp2_with fail
  go_loopw [6, 7] (fun s i wr => ∃ k : Nat, k ≤ N ∧ s = .int .i64 (recC fs o k : Int) ∧ i = .int .i64 (k : Int) ∧ Hid (RfGo w wr base b lb N q R (recK fs o k))) (fun _ i _ => N - (RowKit.intOf i).toNat)
  case atStart => exact ⟨0, by omega, by rw [recC_zero]; rfl, rfl, HG⟩
  case round =>
    clear HG c0
    obtain ⟨k, hk, rfl, rfl, HG⟩ := hrel
    obtain ⟨R1, h1, h2, h3, h4⟩ := HG.out
    have c0 := h1.blk.cell (i := 0) rfl
    by_cases hlt : k < N
    · obtain ⟨bo, hr⟩ := h1.row hlt
      obtain ⟨d0, dh, -⟩ := h1.cell hr
      have f0 := h1.arr.free (k * 3)
      have f1 := h1.arr.free (k * 3 + 1)
      have hbl : b ≠ lb := h1.blk.ne_ h1.arr (by decide)
      have hbl' : ¬ lb = b := fun e => hbl e.symm
      have hrk := recC_succ fs o (k := k) (by rw [HF.out]; exact hlt)
      have hcl := recC_le fs o k
      rw [HF.out] at hcl
      have hfk : frAt (rFs R1) k = frAt fs k := by rw [h2, recK_ge fs o (Nat.le_refl _)]
      have HP := Lib.hid (RfGo.then_ h3 h4 (h1.put2 hlt 0 0))
      rw [hfk, h2] at HP
      have hrec : recK fs o (k + 1) = if (frAt fs k).owner = o ∧ 0 < o then (recK fs o k).set k ⟨0, 0, (frAt fs k).data⟩ else recK fs o k := rfl
      rw [hfk] at d0
      obtain ⟨z, hz⟩ : ∃ z, (frAt fs k).owner = z := ⟨_, rfl⟩
      rw [hz] at d0 hrk hrec
      by_cases hc : z = o ∧ 0 < o
      · obtain ⟨e1, e2⟩ := hc
        have d1 : (z == o) = true := by simpa using e1
        have d2 : decide (0 < o) = true := decide_eq_true e2
        rw [if_pos ⟨e1, e2⟩] at hrk hrec
        have hw : IntKind.i64.wrap ((recC fs o k : Int) + 1) = ((recC fs o (k + 1) : Nat) : Int) := by rw [IntKind.wrap_i64, hrk]; omega
        rw [← hrec] at HP
        clear h1 h2 h3 h4 hr hrk hcl hfk hrec hz e1 e2 HG
        go_wp2_with fail
        go_roundw
        case rel => exact ⟨k + 1, by omega, by first | rfl | go_num, by first | rfl | go_num, HP⟩
        case measure => simp [RowKit.intOf]; omega
      · rw [if_neg hc] at hrk hrec
        have HG' : Hid (RfGo w wr base b lb N q R (recK fs o (k + 1))) := by rw [hrec]; exact HG
        have HS := Lib.hid (show recC fs o (k + 1) = recC fs o k from hrk)
        by_cases e1 : z = o
        · have d1 : (z == o) = true := by simpa using e1
          have d2 : decide (0 < o) = false := decide_eq_false (fun e2 => hc ⟨e1, e2⟩)
          clear h1 h2 h3 h4 hr hrk hcl hfk hrec hz e1 HG HP hc
          go_wp2_with fail
          go_roundw
          case rel => exact ⟨k + 1, by omega, by rw [HS.out], by first | rfl | go_num, HG'⟩
          case measure => simp [RowKit.intOf]; omega
        · have d1 : (z == o) = false := by simpa using e1
          clear h1 h2 h3 h4 hr hrk hcl hfk hrec hz e1 HG HP hc
          go_wp2_with fail
          go_roundw
          case rel => exact ⟨k + 1, by omega, by rw [HS.out], by first | rfl | go_num, HG'⟩
          case measure => simp [RowKit.intOf]; omega
    · obtain rfl : N = k := by omega
      clear h1 h2 h3 h4
      go_wp2_with fail
      go_ret2
      exact ⟨rfl, HG.out⟩
end
end Go.Proofs.Ytmbnmhcfafgnaaa
