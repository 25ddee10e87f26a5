/-
  Package table: Live, Room, Open, End.
-/
import Derived.Test.YtoknnplfdhffnaaTabLive
namespace Go.Proofs.Ytoknnplfdhffnaa
open Go.RowKit Go.Mine

section
variable {b mb n N : Nat} {cs : List Int}
set_option maxRecDepth 100000 in
theorem tRoom_any (w : World) (h : TbAt w b mb n N cs) : Calls Try.prog 12 #[.pointer (some ⟨b, 0, none⟩)] w fun e w' => e = .returned (.int .i64 ((N : Int) - ((liveOf cs).length : Int))) ∧ OnlyIn [] w w' := by
  have ht := h.top
  have hsm := h.small
  have hle := liveOf_le cs
  have hcall := fun W (hW : OnlyIn [] w W) => tLive_any W (h.only0 hW)
  have hno := tnone_no w h
  have c0 := h.blk.cell (i := 0) rfl
  generalize (liveOf cs).length = m at *
  have hw : IntKind.i64.wrap ((N : Int) - (m : Int)) = (N : Int) - (m : Int) := by rw [IntKind.wrap_i64]; omega
  clear h
  go_enter Try.func12, Try.ntmps12
  go_wp2_with fail
  refine hno.mono ?_
  rintro e w' ⟨rfl, rfl⟩
  go_wp2_with fail
  go_region_held3 (fun W => W.cell? ⟨b, 0, none⟩ = some (.int .i64 (N : Int))) (first | exact c0 | exact d0) ((go_at_call 14; refine (hcall _ (by (repeat (first | (with_reducible assumption) | (with_reducible exact OnlyIn.refl _ _) | (with_reducible refine OnlyIn.setCell ?_ (by first | simp | (simp; omega)) _) | (with_reducible refine OnlyIn.drewN ?_ _) | (with_reducible refine OnlyIn.drew ?_) | (with_reducible refine OnlyIn.alloc ?_ _))))).mono ?_; rintro e w1 ⟨u, rfl, hs, ht1⟩; obtain ⟨A, c, rfl, hc⟩ := hs.val; have d0 := ht1.cell c0 (by simp)))
  go_wp2_with fail
  go_ret
  exact ⟨rfl, ((OnlyIn.refl _ _).drew).trans ht1⟩
set_option maxRecDepth 100000 in
theorem tOpen_full (w : World) (h : TbAt w b mb n N cs) (hf : (liveOf cs).length = N) : Calls Try.prog 10 #[.pointer (some ⟨b, 0, none⟩)] w fun e w' => e = .returned (.tuple #[.int .i64 0, .int .i64 15]) ∧ OnlyIn [] w w' := by
  have hz : (N : Int) - ((liveOf cs).length : Int) = 0 := by omega
  go_enter Try.func10, Try.ntmps10
  go_wp2_with fail
  refine (tnone_no w h).mono ?_
  rintro e w' ⟨rfl, rfl⟩
  go_wp2_with fail
  refine (tRoom_any w h).mono ?_
  rintro e w1 ⟨rfl, ht⟩
  rw [hz]
  go_wp2_with fail
  go_ret2
  exact ⟨rfl, ht⟩
set_option maxRecDepth 100000 in
theorem tOpen_room (w : World) (h : TbAt w b mb n N cs) (hf : (liveOf cs).length < N) (hcs : cs.length < 100000) (hn : n < 100000) : Calls Try.prog 10 #[.pointer (some ⟨b, 0, none⟩)] w fun e w' => e = .returned (.tuple #[.int .i64 ((cs.length : Int) + 1), .int .i64 0]) ∧ TbAt w' b mb (n + 1) N (cs ++ [0]) ∧ OnlyIn [b, mb] w w' := by
  have hz : ((N : Int) - ((liveOf cs).length : Int) == 0) = false := by simp; omega
  have hbig : ((cs.length : Int) == 2147483647) = false := by simp; omega
  have hzv : ∀ W, (zeroValue 56).run Try.prog W = .ok (.agg #[.int .i64 0]) W := by intro W; kernel_rfl
  go_enter Try.func10, Try.ntmps10
  go_wp2_with fail
  refine (tnone_no w h).mono ?_
  rintro e w' ⟨rfl, rfl⟩
  go_wp2_with fail
  refine (tRoom_any w h).mono ?_
  rintro e w1 ⟨rfl, ht⟩
  have h1 := h.only0 ht
  have c1 := h1.blk.cell (i := 1) rfl
  have f1 := h1.blk.free 1
  have hbb := h1.blk.set 1 (.int .i64 ((cs.length : Int) + 1))
  have hmm := h1.map.setCell (a := ⟨b, 1, none⟩) h1.ne_ (.int .i64 ((cs.length : Int) + 1))
  have hto : OnlyIn [b, mb] w (w1.setCell ⟨b, 1, none⟩ (.int .i64 ((cs.length : Int) + 1))) := (ht.mono (by simp)).setCell (.inl (by simp)) _
  obtain ⟨w2, hw2⟩ : ∃ w2, w1.setCell ⟨b, 1, none⟩ (.int .i64 ((cs.length : Int) + 1)) = w2 := ⟨_, rfl⟩
  rw [hw2] at hbb hmm hto
  have e1 : w2.cell? ⟨b, 1, none⟩ = _ := hbb.cell (i := 1) rfl
  have e2 : w2.cell? ⟨b, 2, none⟩ = _ := hbb.cell (i := 2) rfl
  obtain ⟨w3, hrun, hM3, hg3⟩ := hmm.drew.store (t := 46) Try.underlying3 Try.underlying46 (by omega) ((cs.length : Int) + 1) (by omega) 0
  have hb3 : Blk w3 b 48 _ := hbb.drew.grown hg3 (by simpa using h1.ne_.symm)
  have d1 : w3.cell? ⟨b, 1, none⟩ = _ := hb3.cell (i := 1) rfl
  have hw1 : IntKind.i64.wrap ((cs.length : Int) + 1) = (cs.length : Int) + 1 := by rw [IntKind.wrap_i64]; omega
  have HH := Lib.hid (And.intro h1 (And.intro hto (And.intro hb3 (And.intro hM3 hg3))))
  have HN := Lib.hid (And.intro hf (And.intro hcs hn))
  generalize (N : Int) - ((liveOf cs).length : Int) = z at hz
  clear h h1 hbb hmm hto ht hb3 hM3 hg3 hf hcs hn
  go_wp2_with fail
  try rw [hw2]
  clear hw2
  go_region_with (fail)
  all_goals
    go_wp2_with fail
    go_ret2
    obtain ⟨h1, hto, hb3, hM3, hg3⟩ := HH.out
    obtain ⟨hf, hcs, hn⟩ := HN.out
    refine ⟨rfl, ⟨?_, ?_, h1.pos, h1.top, by simp; omega, by omega⟩, (hto.drew).grown hg3 (fun k hk => .inl (by injection hk with hk; simp [hk]))⟩
    · rw [List.length_append, List.length_singleton]
      exact hb3
    · rw [← causeOf_more]
      exact hM3
set_option maxRecDepth 100000 in
theorem tEnd_any (w : World) (h : TbAt w b mb n N cs) (hn : n < 100000) (x : Int) (hx : -9223372036854775808 ≤ x ∧ x ≤ 9223372036854775807) (z : Int) : Calls Try.prog 11 #[.pointer (some ⟨b, 0, none⟩), .int .i64 x, .int .i64 z] w fun e w' => e = .returned (.int .i64 (endE cs x z)) ∧ TbAt w' b mb (n + 1) N (endS cs x z) ∧ OnlyIn [mb] w w' := by
  have hstay : ∀ r, r ≠ 0 → endE cs x z = r → ∀ e w', e = Ending.returned (.int .i64 r) → OnlyIn [] w w' → e = Ending.returned (.int .i64 (endE cs x z)) ∧ TbAt w' b mb (n + 1) N (endS cs x z) ∧ OnlyIn [mb] w w' := by
    rintro r hr he e w' rfl ht
    refine ⟨by rw [he], ?_, ht.mono (by simp)⟩
    unfold endS
    rw [he, if_neg hr]
    have h1 := h.only0 ht
    exact ⟨h1.blk, h1.map.mono (by omega), h1.pos, h1.top, h1.small, by omega⟩
  by_cases hz : z = 0
  · subst hz
    have HS := Lib.hid (hstay 2 (by decide) (endE_zero _ _))
    clear hstay
    go_enter Try.func11, Try.ntmps11
    go_wp2_with fail
    refine (tnone_no w h).mono ?_
    rintro e w' ⟨rfl, rfl⟩
    go_wp2_with fail
    go_ret
    exact HS.out _ _ rfl (OnlyIn.refl _ _)
  · have hz2 : (z == 0) = false := by simpa using hz
    have hc := tCause_any w h x hx
    by_cases h1 : 1 ≤ x ∧ x ≤ cs.length
    · obtain ⟨k, rfl⟩ : ∃ k : Nat, x = (k : Int) + 1 := ⟨(x - 1).toNat, by omega⟩
      have hk : k < cs.length := by omega
      rw [causeA_in hk] at hc
      simp only at hc
      by_cases h0 : cs.getD k 0 = 0
      · have he : endE cs ((k : Int) + 1) z = 0 := by rw [endE_in hz hk, if_pos h0]
        have hfin : ∀ w1, OnlyIn [] w w1 → ∀ w3, MapI Try.prog 3 w3 mb (n + 1) (tellI (causeOf cs) ((k : Int) + 1) z) → w1.grownBy w3 (some mb) → ∀ e, e = Ending.returned (.int .i64 0) → e = Ending.returned (.int .i64 (endE cs ((k : Int) + 1) z)) ∧ TbAt w3 b mb (n + 1) N (endS cs ((k : Int) + 1) z) ∧ OnlyIn [mb] w w3 := by
          rintro w1 ht w3 hM3 hg3 e rfl
          have h1 := h.only0 ht
          refine ⟨by rw [he], ?_, (ht.mono (S' := [mb]) (by simp)).grown hg3 (fun k hk => .inl (by injection hk with hk; simp [hk]))⟩
          unfold endS
          rw [he, if_pos rfl]
          refine ⟨?_, ?_, h1.pos, h1.top, by rw [List.length_set]; exact h1.small, by omega⟩
          · rw [List.length_set]
            exact h1.blk.grown hg3 (by simpa using h1.ne_.symm)
          · rw [← causeOf_set (by omega)]
            exact hM3
        have HF := Lib.hid hfin
        have HH := Lib.hid h
        have hno := tnone_no w h
        rw [h0] at hc
        clear hstay hfin he h
        go_enter Try.func11, Try.ntmps11
        go_wp2_with fail
        refine hno.mono ?_
        rintro e w' ⟨rfl, rfl⟩
        go_wp2_with fail
        refine hc.mono ?_
        rintro e w1 ⟨rfl, ht⟩
        have h1 := HH.out.only0 ht
        have e2 := h1.blk.cell (i := 2) rfl
        obtain ⟨w3, hrun, hM3, hg3⟩ := h1.map.store (t := 46) Try.underlying3 Try.underlying46 (by omega) ((k : Int) + 1) hx z
        have HM := Lib.hid (And.intro ht (And.intro hM3 hg3))
        clear h1 hM3 hg3 ht
        go_wp2_with fail
        go_ret
        exact HF.out w1 HM.out.1 w3 HM.out.2.1 HM.out.2.2 _ rfl
      · have HS := Lib.hid (hstay 19 (by decide) (by rw [endE_in hz hk, if_neg h0]))
        have hd : (cs.getD k 0 == 0) = false := by simpa using h0
        have hd2 : (cs.getD k 0 != 0) = true := by simpa using h0
        have hno := tnone_no w h
        generalize cs.getD k 0 = y at hc hd hd2
        clear hstay h h0 h1 hk
        go_enter Try.func11, Try.ntmps11
        go_wp2_with fail
        refine hno.mono ?_
        rintro e w' ⟨rfl, rfl⟩
        go_wp2_with fail
        refine hc.mono ?_
        rintro e w1 ⟨rfl, ht⟩
        go_wp2_with fail
        go_ret
        exact HS.out _ _ rfl ht
    · have HS := Lib.hid (hstay 18 (by decide) (endE_out hz h1))
      have hno := tnone_no w h
      rw [causeA_out h1] at hc
      simp only at hc
      clear hstay h h1
      go_enter Try.func11, Try.ntmps11
      go_wp2_with fail
      refine hno.mono ?_
      rintro e w' ⟨rfl, rfl⟩
      go_wp2_with fail
      refine hc.mono ?_
      rintro e w1 ⟨rfl, ht⟩
      go_wp2_with fail
      go_ret
      exact HS.out _ _ rfl ht
end
end Go.Proofs.Ytoknnplfdhffnaa
