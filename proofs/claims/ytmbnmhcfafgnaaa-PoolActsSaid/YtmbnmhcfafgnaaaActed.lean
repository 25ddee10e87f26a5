/-
  Law 23: acted: an act, answered alike by the pool and its reference: all but Memory and Look.
-/
import Derived.Test.YtmbnmhcfafgnaaaActsLaw
import Derived.Deep.RegionHeld3
namespace Go.Proofs.Ytmbnmhcfafgnaaa
open Go.RowKit Go.Mine

/-- Both stand alike. -/
def Ac (w0 w : World) (base b N T : Nat) (q : Int) (base2 b2 lb : Nat) (H : Int) : Prop := ∃ fs L R, Bo w0 w base b N T q fs L base2 b2 lb R ∧ rFs R = fs ∧ OkF fs H
section
variable {w0 w w' : World} {base b N T : Nat} {q : Int} {fs fs' : List Fr} {L : List Nat} {base2 b2 lb : Nat} {R : List RRow} {H : Int}
theorem Ac.only0 (h : Ac w0 w base b N T q base2 b2 lb H) (ht : OnlyIn [] w w') : Ac w0 w' base b N T q base2 b2 lb H := by
  obtain ⟨fs, L, R, h1, h2, h3⟩ := h
  exact ⟨fs, L, R, h1.only0 ht, h2, h3⟩
/-- The act's own cells. -/
def actO (k fr ow n : Int) : Obj := .cells #[.int .i64 k, .int .i64 fr, .int .i64 ow, .int .i64 n] 60
theorem actO_cells (w : World) (k fr ow n : Int) : (w.alloc (actO k fr ow n)).cell? ⟨w.heap.size, 0, none⟩ = some (.int .i64 k) ∧ (w.alloc (actO k fr ow n)).cell? ⟨w.heap.size, 1, none⟩ = some (.int .i64 fr) ∧ (w.alloc (actO k fr ow n)).cell? ⟨w.heap.size, 2, none⟩ = some (.int .i64 ow) ∧ (w.alloc (actO k fr ow n)).cell? ⟨w.heap.size, 3, none⟩ = some (.int .i64 n) := by
  have h := Blk.new w 60 [.int .i64 k, .int .i64 fr, .int .i64 ow, .int .i64 n]
  exact ⟨h.cell rfl, h.cell rfl, h.cell rfl, h.cell rfl⟩

set_option maxRecDepth 100000 in
set_option maxHeartbeats 1000000 in
theorem acted_acq (h : Bo w0 w base b N T q fs L base2 b2 lb R) (he : rFs R = fs) (hk : OkF fs H) (hH : 0 ≤ H) (hT : T < 90000) (fr ow n : Int) (ho : -9223372036854775808 ≤ ow ∧ ow ≤ 9223372036854775807) :
    Calls Try.prog 47 #[.pointer (some ⟨b, 0, none⟩), .pointer (some ⟨b2, 0, none⟩), .agg #[.int .i64 0, .int .i64 fr, .int .i64 ow, .int .i64 n]] w fun e w' => e = .returned (.bool true) ∧ Ac w0 w' base b N (T + 64) q base2 b2 lb (H + 1) := by
  subst he
  have hA : Bo w0 (w.alloc (actO 0 fr ow n)) base b N T q (rFs R) L base2 b2 lb R := h.only0 ((OnlyIn.refl _ _).alloc _)
  have hab : w.heap.size ∉ L := fun hm => by have := h.pl.lt _ hm; omega
  obtain ⟨-, -, z2, -⟩ := actO_cells w 0 fr ow n
  have HA := Lib.hid hA
  have HK := Lib.hid hk
  have hac := go_acquire hA.pl hT ow ho
  generalize hx : (acqN (rFs R) q ow : Int) = x at hac
  generalize hy : acqE (rFs R) q ow = y at hac
  have HX := Lib.hid (And.intro hx hy)
  unfold actO at hac z2
  clear h hA hk hx hy
  go_enter Try.func47, Try.ntmps47
  go_wp2_with fail
  refine hac.mono ?_
  rintro e w2 ⟨rfl, hg⟩
  obtain ⟨L2, hB2, ht2⟩ := HA.out.pool hg
  have y2 := ht2.cell z2 hab
  have har := ref_acquire hB2.rf ow
  rw [HX.out.1, HX.out.2] at har
  have HB := Lib.hid hB2
  clear hac hg hB2 ht2 z2
  go_wp2_with fail
  refine har.mono ?_
  rintro e w3 ⟨rfl, hg3⟩
  obtain ⟨R3, hB3, he3, -⟩ := HB.out.ref hg3
  have HF := Lib.hid (show Ac w0 w3 base b N (T + 64) q base2 b2 lb (H + 1) from ⟨_, L2, R3, hB3, he3, (HK.out.mono (by omega)).acq (by omega) q ow⟩)
  clear har hg3 hB3 he3 y2
  go_wp2_with fail
  go_ret
  exact ⟨by simp, HF.out⟩
set_option maxRecDepth 100000 in
set_option maxHeartbeats 1000000 in
theorem acted_rec (h : Bo w0 w base b N T q fs L base2 b2 lb R) (he : rFs R = fs) (hk : OkF fs H) (hH : 0 ≤ H) (hH2 : H ≤ 1000000) (hT : T < 90000) (fr ow n : Int) :
    Calls Try.prog 47 #[.pointer (some ⟨b, 0, none⟩), .pointer (some ⟨b2, 0, none⟩), .agg #[.int .i64 4, .int .i64 fr, .int .i64 ow, .int .i64 n]] w fun e w' => e = .returned (.bool true) ∧ Ac w0 w' base b N (T + 64) q base2 b2 lb (H + 1) := by
  subst he
  have hA : Bo w0 (w.alloc (actO 4 fr ow n)) base b N T q (rFs R) L base2 b2 lb R := h.only0 ((OnlyIn.refl _ _).alloc _)
  have hab : w.heap.size ∉ L := fun hm => by have := h.pl.lt _ hm; omega
  obtain ⟨-, -, z2, -⟩ := actO_cells w 4 fr ow n
  have HA := Lib.hid hA
  have HK := Lib.hid hk
  have hac := go_reclaim hA.pl hT hk hH2 ow
  generalize hx : heldN (rFs R) ow = x at hac
  have HX := Lib.hid hx
  unfold actO at hac z2
  clear h hA hk hx
  go_enter Try.func47, Try.ntmps47
  go_wp2_with fail
  refine hac.mono ?_
  rintro e w2 ⟨rfl, hg⟩
  obtain ⟨L2, hB2, ht2⟩ := HA.out.pool hg
  have y2 := ht2.cell z2 hab
  have har := ref_reclaim hB2.rf ow
  rw [HX.out] at har
  have HB := Lib.hid hB2
  clear hac hg hB2 ht2 z2
  go_wp2_with fail
  refine har.mono ?_
  rintro e w3 ⟨rfl, hg3⟩
  obtain ⟨R3, hB3, he3, -⟩ := HB.out.ref hg3
  have HF := Lib.hid (show Ac w0 w3 base b N (T + 64) q base2 b2 lb (H + 1) from ⟨_, L2, R3, hB3, he3, (HK.out.mono (by omega)).rec_ ow⟩)
  clear har hg3 hB3 he3 y2
  go_wp2_with fail
  go_ret
  exact ⟨by simp, HF.out⟩
set_option maxRecDepth 100000 in
theorem acted_other (h : Bo w0 w base b N T q fs L base2 b2 lb R) (he : rFs R = fs) (hk : OkF fs H) (kk fr ow n : Int) (hkk : kk ≠ 0 ∧ kk ≠ 1 ∧ kk ≠ 2 ∧ kk ≠ 3 ∧ kk ≠ 4 ∧ kk ≠ 5) :
    Calls Try.prog 47 #[.pointer (some ⟨b, 0, none⟩), .pointer (some ⟨b2, 0, none⟩), .agg #[.int .i64 kk, .int .i64 fr, .int .i64 ow, .int .i64 n]] w fun e w' => e = .returned (.bool true) ∧ Ac w0 w' base b N (T + 64) q base2 b2 lb (H + 1) := by
  have hA : Bo w0 (w.alloc (actO kk fr ow n)) base b N T q fs L base2 b2 lb R := h.only0 ((OnlyIn.refl _ _).alloc _)
  have hm : Bo w0 (w.alloc (actO kk fr ow n)) base b N (T + 64) q fs L base2 b2 lb R := ⟨hA.pl.more (by omega), hA.rf, hA.dis, hA.only, hA.l1, hA.l2⟩
  have HF := Lib.hid (show Ac w0 (w.alloc (actO kk fr ow n)) base b N (T + 64) q base2 b2 lb (H + 1) from ⟨_, L, R, hm, he, hk.mono (by omega)⟩)
  unfold actO at HF
  have d0 : (kk == 0) = false := by simpa using hkk.1
  have d1 : (kk == 1) = false := by simpa using hkk.2.1
  have d2 : (kk == 2) = false := by simpa using hkk.2.2.1
  have d3 : (kk == 3) = false := by simpa using hkk.2.2.2.1
  have d4 : (kk == 4) = false := by simpa using hkk.2.2.2.2.1
  have d5 : (kk == 5) = false := by simpa using hkk.2.2.2.2.2
  clear h hA hm he hk hkk
  go_enter Try.func47, Try.ntmps47
  go_wp2_with fail
  go_ret
  exact ⟨rfl, HF.out⟩
set_option maxRecDepth 100000 in
set_option maxHeartbeats 1000000 in
theorem acted_ret (h : Bo w0 w base b N T q fs L base2 b2 lb R) (he : rFs R = fs) (hk : OkF fs H) (hH : H ≤ 1000000) (fr ow n : Int) :
    Calls Try.prog 47 #[.pointer (some ⟨b, 0, none⟩), .pointer (some ⟨b2, 0, none⟩), .agg #[.int .i64 1, .int .i64 fr, .int .i64 ow, .int .i64 n]] w fun e w' => e = .returned (.bool true) ∧ Ac w0 w' base b N (T + 64) q base2 b2 lb (H + 1) := by
  subst he
  have hA : Bo w0 (w.alloc (actO 1 fr ow n)) base b N T q (rFs R) L base2 b2 lb R := h.only0 ((OnlyIn.refl _ _).alloc _)
  have hAd := hA.only0 (OnlyIn.refl _ _).drew
  have hab : w.heap.size ∉ L := fun hm => by have := h.pl.lt _ hm; omega
  have hab2 : w.heap.size ∉ [lb] := fun hm => by
    simp only [List.mem_singleton] at hm
    have := (h.rf.lt lb (by unfold rOwn; simp)).2
    omega
  obtain ⟨-, z1, z2, -⟩ := actO_cells w 1 fr ow n
  have HA := Lib.hid hAd
  have HK := Lib.hid hk
  have hre := go_retain hAd.pl hk hH fr ow
  obtain ⟨y, hy⟩ : ∃ y, whyF (rFs R) fr ow = y := ⟨_, rfl⟩
  have HY := Lib.hid hy
  rw [hy] at hre
  unfold actO at hre z1 z2
  clear h hA hAd hk hy
  go_enter Try.func47, Try.ntmps47
  go_wp2_with fail
  go_region_held3 (fun W => W.cell? ⟨w.heap.size, 1, none⟩ = some (.int .i64 fr) ∧ W.cell? ⟨w.heap.size, 2, none⟩ = some (.int .i64 ow)) (first | exact ⟨z1, z2⟩ | exact ⟨y1, y2⟩ | exact ⟨x1, x2⟩) ((first | (go_at_call 44; refine hre.mono ?_; rintro e w2 ⟨rfl, hg⟩; obtain ⟨L2, hB2, ht2⟩ := HA.out.pool hg; have y1 := ht2.cell z1 hab; have y2 := ht2.cell z2 hab; have har := ref_retain hB2.rf HK.out hH fr ow; rw [HY.out] at har; have HB := Lib.hid hB2; clear hre hg hB2 ht2; dsimp only) | (go_at_call 61; refine har.mono ?_; rintro e w3 ⟨rfl, hg3⟩; obtain ⟨R3, hB3, he3, ht3⟩ := HB.out.ref hg3; have x1 := ht3.cell y1 hab2; have x2 := ht3.cell y2 hab2; have HF := Lib.hid (show Ac w0 w3 base b N (T + 64) q base2 b2 lb (H + 1) from ⟨_, L2, R3, hB3, he3, HK.out.ret fr ow⟩); clear har hg3 hB3 he3 ht3; dsimp only)))
  go_wp2_with fail
  go_ret
  exact ⟨by simp, HF.out⟩
end
end Go.Proofs.Ytmbnmhcfafgnaaa
