/-
  Law 23: acted: Look; any act.
-/
import Derived.Test.YtmbnmhcfafgnaaaActed2
namespace Go.Proofs.Ytmbnmhcfafgnaaa
open Go.RowKit Go.Mine
section
variable {w0 w w' : World} {base b N T : Nat} {q : Int} {fs fs' : List Fr} {L : List Nat} {base2 b2 lb : Nat} {R : List RRow} {H : Int}
set_option maxRecDepth 100000 in
set_option maxHeartbeats 2000000 in
theorem acted_look (h : Bo w0 w base b N T q fs L base2 b2 lb R) (he : rFs R = fs) (hk : OkF fs H) (fr ow n : Int) :
    Calls Try.prog 47 #[.pointer (some ⟨b, 0, none⟩), .pointer (some ⟨b2, 0, none⟩), .agg #[.int .i64 5, .int .i64 fr, .int .i64 ow, .int .i64 n]] w fun e w' => e = .returned (.bool true) ∧ Ac w0 w' base b N (T + 64) q base2 b2 lb (H + 1) := by
  subst he
  have hA : Bo w0 (w.alloc (actO 5 fr ow n)) base b N T q (rFs R) L base2 b2 lb R := h.only0 ((OnlyIn.refl _ _).alloc _)
  have hab : w.heap.size ∉ L := fun hm => by have := h.pl.lt _ hm; omega
  obtain ⟨-, z1, -, z3⟩ := actO_cells w 5 fr ow n
  have HA := Lib.hid hA
  have HK := Lib.hid hk
  have hlk := go_look hA.pl fr n
  obtain ⟨y, hy⟩ : ∃ y, lookE (rFs R) fr n = y := ⟨_, rfl⟩
  have HY := Lib.hid hy
  obtain ⟨D, hD⟩ : ∃ D, lookD (rFs R) fr n = D := ⟨_, rfl⟩
  have HD := Lib.hid hD
  have hDl : D.length ≤ 1000000000 := by
    rw [← hD]
    unfold lookD
    split
    · rename_i h0
      unfold lookE at h0
      split at h0
      · rename_i h1
        rw [List.length_take]
        omega
      · cases h0
    · simp
  rw [hy, hD] at hlk
  have HL := Lib.hid hDl
  unfold actO at hlk z1 z3
  clear h hA hk hy hD hDl
  go_enter Try.func47, Try.ntmps47
  go_wp2_with fail
  refine hlk.mono ?_
  rintro e w2 ⟨v, rfl, hs2, L2, hP2, ht2, hl2, hv2⟩
  have hB2 := HA.out.still hP2 ht2 hl2
  have y1 := ht2.cell z1 hab
  have y3 := ht2.cell z3 hab
  have hlr := ref_look hB2.rf fr n
  rw [HY.out, HD.out] at hlr
  have HB := Lib.hid (And.intro hB2 (And.intro hs2 (And.intro ht2 hv2)))
  clear hlk hs2 hP2 ht2 hl2 hv2 hB2 z1 z3
  go_wp2_with fail
  refine hlr.mono ?_
  rintro e w3 ⟨u, rfl, hs3, R3, g1, g2, g3, g4, hu3⟩
  obtain ⟨hB2, hs2, ht2, hv2⟩ := HB.out
  have hB3 := hB2.rstill g1 g3 g4
  have hge : ∀ g, v.ownBlock = some g → (w.alloc (actO 5 fr ow n)).heap.size ≤ g := fun g hg => (hs2.own_lt g hg).1
  have hlb : ∀ g, v.ownBlock = some g → g ∉ [lb] := fun g hg hm => by
    simp only [List.mem_singleton] at hm
    have h1 := hge g hg
    have h2 := (HA.out.rf.lt lb (by unfold rOwn; simp)).2
    omega
  have hs23 := hs2.only g3 hlb
  have hsb := SameBytes_any w3 v u D D (Rd.of_sl hs23) (Rd.of_sl hs3)
  rw [decide_eq_true rfl] at hsb
  have hov := OverBytes_any w3 v D.length D _ hs23 HL.out
  have HF : Hid (∀ W, OnlyIn v.ownBlock.toList w3 W → Ac w0 W base b N (T + 64) q base2 b2 lb (H + 1)) := Lib.hid fun W ht => by
    have hB4 := hB3.near ht (fun k hk => by
      have hk' : v.ownBlock = some k := by simpa using hk
      refine ⟨hv2 k hk', fun hm => ?_, Nat.le_trans HA.out.only.size (hge k hk')⟩
      rcases g4 k hm with hh | hh
      · have h1 := (HA.out.rf.lt k hh).2
        have h2 := hge k hk'
        omega
      · have h1 := (hs2.own_lt k hk').2
        omega)
    exact ⟨_, L2, R3, ⟨hB4.pl.more (by omega), hB4.rf, hB4.dis, hB4.only, hB4.l1, hB4.l2⟩, g2, HK.out.mono (by omega)⟩
  clear hlr hs3 g1 g2 g3 g4 hu3 hB2 hs2 ht2 hv2 hB3 hge hlb hs23 HB y1 y3
  go_wp2_with fail
  refine hsb.mono ?_
  rintro e w' ⟨rfl, rfl⟩
  clear hsb
  go_wp2_with fail
  refine hov.mono ?_
  rintro e w4 ⟨rfl, t4⟩
  have HG := Lib.hid (HF.out _ t4)
  clear hov t4 HF
  go_wp2_with fail
  go_ret
  exact ⟨by simp, HG.out⟩
set_option maxRecDepth 100000 in
theorem acted_any (h : Bo w0 w base b N T q fs L base2 b2 lb R) (he : rFs R = fs) (hk : OkF fs H) (hH : 0 ≤ H) (hH2 : H ≤ 1000000) (hT : T < 90000) (a : Act23) (ha : a.ok) :
    Calls Try.prog 47 #[.pointer (some ⟨b, 0, none⟩), .pointer (some ⟨b2, 0, none⟩), a.val] w fun e w' => e = .returned (.bool true) ∧ Ac w0 w' base b N (T + 64) q base2 b2 lb (H + 1) := by
  obtain ⟨kk, fr, ow, n⟩ := a
  obtain ⟨h1, h2, h3, h4⟩ := ha
  show Calls Try.prog 47 #[_, _, .agg #[.int .i64 kk, .int .i64 fr, .int .i64 ow, .int .i64 n]] w _
  by_cases e0 : kk = 0
  · subst e0; exact acted_acq h he hk hH hT fr ow n h3
  by_cases e1 : kk = 1
  · subst e1; exact acted_ret h he hk hH2 fr ow n
  by_cases e2 : kk = 2
  · subst e2; exact acted_rel h he hk hH2 hT fr ow n
  by_cases e3 : kk = 3
  · subst e3; exact acted_mem h he hk fr ow n h4
  by_cases e4 : kk = 4
  · subst e4; exact acted_rec h he hk hH hH2 hT fr ow n
  by_cases e5 : kk = 5
  · subst e5; exact acted_look h he hk fr ow n
  · exact acted_other h he hk kk fr ow n ⟨e0, e1, e2, e3, e4, e5⟩
end
end Go.Proofs.Ytmbnmhcfafgnaaa
