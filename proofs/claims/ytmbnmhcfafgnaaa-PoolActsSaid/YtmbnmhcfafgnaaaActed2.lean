/-
  Law 23: acted: Release, Memory and Look.
-/
import Derived.Test.YtmbnmhcfafgnaaaActed
import Derived.Test.YtmbnmhcfafgnaaaKit
namespace Go.Proofs.Ytmbnmhcfafgnaaa
open Go.RowKit Go.Mine
section
variable {w0 w w' : World} {base b N T : Nat} {q : Int} {fs fs' : List Fr} {L : List Nat} {base2 b2 lb : Nat} {R : List RRow} {H : Int}
set_option maxRecDepth 100000 in
set_option maxHeartbeats 1000000 in
theorem acted_rel (h : Bo w0 w base b N T q fs L base2 b2 lb R) (he : rFs R = fs) (hk : OkF fs H) (hH : H ≤ 1000000) (hT : T < 90000) (fr ow n : Int) :
    Calls Try.prog 47 #[.pointer (some ⟨b, 0, none⟩), .pointer (some ⟨b2, 0, none⟩), .agg #[.int .i64 2, .int .i64 fr, .int .i64 ow, .int .i64 n]] w fun e w' => e = .returned (.bool true) ∧ Ac w0 w' base b N (T + 64) q base2 b2 lb (H + 1) := by
  subst he
  have hA : Bo w0 (w.alloc (actO 2 fr ow n)) base b N T q (rFs R) L base2 b2 lb R := h.only0 ((OnlyIn.refl _ _).alloc _)
  have hAd := hA.only0 (OnlyIn.refl _ _).drew
  have hab : w.heap.size ∉ L := fun hm => by have := h.pl.lt _ hm; omega
  have hab2 : w.heap.size ∉ [lb] := fun hm => by
    simp only [List.mem_singleton] at hm
    have := (h.rf.lt lb (by unfold rOwn; simp)).2
    omega
  obtain ⟨-, z1, z2, -⟩ := actO_cells w 2 fr ow n
  have HA := Lib.hid hAd
  have HK := Lib.hid hk
  have hre := go_release hAd.pl hT hk hH fr ow
  obtain ⟨y, hy⟩ : ∃ y, whyF (rFs R) fr ow = y := ⟨_, rfl⟩
  have HY := Lib.hid hy
  rw [hy] at hre
  unfold actO at hre z1 z2
  clear h hA hAd hk hy
  go_enter Try.func47, Try.ntmps47
  go_wp2_with fail
  go_region_held3 (fun W => W.cell? ⟨w.heap.size, 1, none⟩ = some (.int .i64 fr) ∧ W.cell? ⟨w.heap.size, 2, none⟩ = some (.int .i64 ow)) (first | exact ⟨z1, z2⟩ | exact ⟨y1, y2⟩ | exact ⟨x1, x2⟩) ((first | (go_at_call 32; refine hre.mono ?_; rintro e w2 ⟨rfl, hg⟩; obtain ⟨L2, hB2, ht2⟩ := HA.out.pool hg; have y1 := ht2.cell z1 hab; have y2 := ht2.cell z2 hab; have har := ref_release hB2.rf HK.out hH fr ow; rw [HY.out] at har; have HB := Lib.hid hB2; clear hre hg hB2 ht2; dsimp only) | (go_at_call 62; refine har.mono ?_; rintro e w3 ⟨rfl, hg3⟩; obtain ⟨R3, hB3, he3, ht3⟩ := HB.out.ref hg3; have x1 := ht3.cell y1 hab2; have x2 := ht3.cell y2 hab2; have HF := Lib.hid (show Ac w0 w3 base b N (T + 64) q base2 b2 lb (H + 1) from ⟨_, L2, R3, hB3, he3, (HK.out.rel fr ow).mono (by omega)⟩); clear har hg3 hB3 he3 ht3; dsimp only)))
  go_wp2_with fail
  go_ret
  exact ⟨by simp, HF.out⟩

theorem u8_of3 (z : Int) : IntKind.u8.wrap z = ((UInt8.ofNat (z % 256).toNat).toNat : Int) := by
  rw [IntKind.wrap_u8, UInt8.toNat_ofNat_of_lt' (by show _ < 256; omega)]
  omega
set_option maxRecDepth 100000 in
theorem OkF.wrote (h : OkF fs H) {i : Nat} (hi : i < fs.length) (D : List UInt8) : OkF (fs.set i ⟨(frAt fs i).owner, (frAt fs i).handles, D⟩) H := h.put (by have := h i hi; exact ⟨this.1, this.2.1, this.2.2.1, this.2.2.2⟩)
set_option maxRecDepth 100000 in
set_option maxHeartbeats 2000000 in
theorem acted_mem (h : Bo w0 w base b N T q fs L base2 b2 lb R) (he : rFs R = fs) (hk : OkF fs H) (fr ow n : Int) (hn : -9223372036854775808 ≤ n ∧ n ≤ 9223372036854775807) :
    Calls Try.prog 47 #[.pointer (some ⟨b, 0, none⟩), .pointer (some ⟨b2, 0, none⟩), .agg #[.int .i64 3, .int .i64 fr, .int .i64 ow, .int .i64 n]] w fun e w' => e = .returned (.bool true) ∧ Ac w0 w' base b N (T + 64) q base2 b2 lb (H + 1) := by
  subst he
  have hA : Bo w0 (w.alloc (actO 3 fr ow n)) base b N T q (rFs R) L base2 b2 lb R := h.only0 ((OnlyIn.refl _ _).alloc _)
  have hab : w.heap.size ∉ L := fun hm => by have := h.pl.lt _ hm; omega
  have hab2 : w.heap.size ∉ [lb] := fun hm => by
    simp only [List.mem_singleton] at hm
    have := (h.rf.lt lb (by unfold rOwn; simp)).2
    omega
  obtain ⟨-, z1, z2, z3⟩ := actO_cells w 3 fr ow n
  have HA := Lib.hid hA
  have HK := Lib.hid hk
  have hme := go_memory hA.pl fr ow
  have hp := fun W => Pick_any n 300 W (by omega) (by omega) hn.1 hn.2
  obtain ⟨at_, hat⟩ := Int.eq_ofNat_of_zero_le (Int.emod_nonneg n (show (300 : Int) ≠ 0 by omega))
  have hat3 : (at_ : Int) < 152064 := by omega
  rw [hat] at hp
  obtain ⟨y, hy⟩ : ∃ y, whyF (rFs R) fr ow = y := ⟨_, rfl⟩
  have HY := Lib.hid hy
  rw [hy] at hme
  unfold actO at hme z1 z2 z3
  clear h hA hk hy hat
  go_enter Try.func47, Try.ntmps47
  go_wp2_with fail
  refine hme.mono ?_
  rintro e w2 ⟨v, rfl, L2, hP2, ht2, hl2, hv⟩
  have hB2 := HA.out.still hP2 ht2 hl2
  have y1 := ht2.cell z1 hab
  have y2 := ht2.cell z2 hab
  have y3 := ht2.cell z3 hab
  have hmr := ref_memory hB2.rf fr ow
  rw [HY.out] at hmr
  have HV := Lib.hid hv
  have HB := Lib.hid hB2
  clear hme hP2 ht2 hl2 hv z1 z2 z3 hB2
  by_cases h0 : y = 0
  · subst h0
    obtain ⟨-, x, hM, rfl⟩ := HV.out.resolve_left (fun h => h.1 rfl)
    have HM := Lib.hid hM
    clear hM HV
    go_wp2_with fail
    refine hmr.mono ?_
    rintro e w3 ⟨u, rfl, hu⟩
    obtain ⟨-, x', rfl, hi, R3, g1, g2, g3, g4, g5⟩ := hu.resolve_left (fun h => h.1 rfl)
    have hB3 := HB.out.rstill g1 g3 g4
    have hlb : lb ∉ L2 := HB.out.dis _ (by unfold rOwn; simp)
    have hM3 := HM.out.only g3 (by simpa using hlb)
    obtain ⟨i, hir⟩ : ∃ i, fr.toNat = i := ⟨_, rfl⟩
    rw [hir] at hi g5 hM3
    have x3 := g3.cell y3 hab2
    obtain ⟨hb1, hb2⟩ := hM3.blk
    have hb3 := (g1.yes i _ x' g5).1
    obtain ⟨d, hd⟩ : ∃ d, (frAt (rFs R) i).data[at_]? = some d := ⟨_, List.getElem?_eq_getElem (by rw [hb2]; omega)⟩
    have cb : w3.cell? ⟨x, at_, none⟩ = some (.int .u8 (d.toNat : Int)) := hb1.cell (by simp [byteCells, hd])
    have cc : w3.cell? ⟨x', at_, none⟩ = some (.int .u8 (d.toNat : Int)) := hb3.cell (by simp [byteCells, hd])
    have fb := hb1.free at_
    have fc := hb3.free at_
    have hxx : x ≠ x' := fun e => hB3.dis x' (mem_rown g5) (e ▸ hM3.mem)
    have hxx' : ¬ x' = x := fun e => hxx e.symm
    obtain ⟨v8, hv8⟩ : ∃ v8, UInt8.ofNat (((d.toNat : Int) + 77) % 256).toNat = v8 := ⟨_, rfl⟩
    have hw := u8_of3 ((d.toNat : Int) + 77)
    rw [hv8] at hw
    have hS1 := hM3.write hB3.pl at_ v8
    have ht4 : OnlyIn [x] w3 (w3.setCell ⟨x, at_, none⟩ (.int .u8 (v8.toNat : Int))) := (OnlyIn.refl _ _).setCell (.inl (by simp)) _
    have hR4 := g1.only ht4 (fun k hk hm => by simp only [List.mem_singleton] at hk; subst hk; exact hB3.dis _ hm hM3.mem)
    have hR5 := hR4.write g5 at_ v8
    have ht5 : OnlyIn [x'] (w3.setCell ⟨x, at_, none⟩ (.int .u8 (v8.toNat : Int))) ((w3.setCell ⟨x, at_, none⟩ (.int .u8 (v8.toNat : Int))).setCell ⟨x', at_, none⟩ (.int .u8 (v8.toNat : Int))) := (OnlyIn.refl _ _).setCell (.inl (by simp)) _
    have hS5 := hS1.only ht5 (fun k hk hm => by simp only [List.mem_singleton] at hk; subst hk; exact hB3.dis _ (mem_rown g5) hm)
    have hO5 : OnlyIn [] w0 ((w3.setCell ⟨x, at_, none⟩ (.int .u8 (v8.toNat : Int))).setCell ⟨x', at_, none⟩ (.int .u8 (v8.toNat : Int))) := (hB3.only.setCell (.inr (Nat.le_trans hB3.l1 (hB3.pl.lo _ hM3.mem))) _).setCell (.inr (Nat.le_trans hB3.l2 (g1.yes i _ x' g5).2)) _
    have hil : i < (rFs R).length := by have := hM3.1; rw [← g2, g1.fl]; exact this
    have hF : Ac w0 ((w3.setCell ⟨x, at_, none⟩ (.int .u8 (v8.toNat : Int))).setCell ⟨x', at_, none⟩ (.int .u8 (v8.toNat : Int))) base b N (T + 64) q base2 b2 lb (H + 1) :=
      ⟨_, L2, _, ⟨hS5.more (by omega), hR5, fun k hk hm => hB3.dis k (rOwn_write g5 k hk) hm, hO5, hB3.l1, hB3.l2⟩, by rw [rFs_set, g2], (HK.out.mono (by omega)).wrote hil _⟩
    have HF := Lib.hid hF
    clear hmr hu g1 g2 g3 g4 g5 hB3 hlb hM3 hb1 hb2 hb3 hd hv8 hS1 ht4 hR4 hR5 ht5 hS5 hO5 hil hF HM HB y1 y2 y3 hi hir
    go_wp2_with fail
    refine (hp _).mono ?_
    rintro e w' ⟨rfl, rfl⟩
    clear hp
    go_wp2_with fail
    go_region
    go_wp2_with fail
    go_ret
    exact ⟨rfl, HF.out.only0 (OnlyIn.refl _ _).drew⟩
  · have d0 : (y != y) = false := by simp
    have hv2 := (HV.out.resolve_right (fun h => h0 h.1)).2
    subst hv2
    have HF : Hid (∀ W, w2 = W → Ac w0 W base b N (T + 64) q base2 b2 lb (H + 1)) := Lib.hid fun W hW => by
      subst hW
      have hB := HB.out
      exact ⟨_, L2, R, ⟨hB.pl.more (by omega), hB.rf, hB.dis, hB.only, hB.l1, hB.l2⟩, rfl, HK.out.mono (by omega)⟩
    have H0 := Lib.hid h0
    clear HV HB h0
    go_wp2_with fail
    refine hmr.mono ?_
    rintro e w3 ⟨u, rfl, hu⟩
    obtain ⟨-, rfl, rfl⟩ := hu.resolve_right (fun h => H0.out h.1)
    clear hmr hu
    go_wp2_with fail
    go_ret
    exact ⟨rfl, HF.out _ rfl⟩
end
end Go.Proofs.Ytmbnmhcfafgnaaa
