/-
  Law 05: KindReads, KindTells: the walks.
-/
import Derived.Test.YtheihohojmcbiaaLaw05
import Derived.Test.YtheihohojmcbiaaKitKept
namespace Go.Proofs.Ytheihohojmcbiaa
open Go.RowKit Go.Mine

set_option maxRecDepth 100000 in
set_option maxHeartbeats 2000000 in
theorem KindReads_walk {w : World} (z : Value × List UInt8) (hzz : Rd w 1 z.1 z.2.length (byteCells z.2) ∧ z.2.length ≤ maxLen) (i : Int) (hi : -9223372036854775808 ≤ i ∧ i ≤ 9223372036854775807) :
    Calls Try.prog 3 #[z.1, .int .i64 i] w fun e w' => e = .returned (.bool true) ∧ OnlyIn [] w w' := by
  obtain ⟨bv, bs⟩ := z
  obtain ⟨hrb, hbl⟩ := hzz
  simp only at hrb hbl ⊢
  simp only [maxLen] at hbl
  obtain ⟨E, f, rfl, hff⟩ : ∃ A c, bv = .slice A bs.length c ∧ bs.length ≤ c := by
    obtain ⟨-, A, c, h1, h2, -⟩ := hrb; exact ⟨A, c, h1, h2⟩
  have haw := fun w => awake05 w
  by_cases h100 : 100 < bs.length
  · have hd : decide ((100 : Int) < (bs.length : Int)) = true := by simp; omega
    clear hrb
    go_enter Try.func3, Try.ntmps3
    go_wp2_with (go_at_call 13; refine (haw _).mono ?_; rintro e w2 ⟨rfl, ht⟩)
    go_ret
    exact ⟨rfl, ht⟩
  have hd : decide ((100 : Int) < (bs.length : Int)) = false := by simp; omega
  have hln := LentBytes_any w _ bs hrb (by omega)
  have hg1 := fun w1 {u} (hL : Lent w1 w.heap.size 5 u bs) => kGet_any w1 u bs hL.rd (by omega) i hi.2
  have hg2 := fun w1 (ho : OnlyIn [] w w1) => rkGet_any w1 _ bs (hrb.cells fun p u hp => ho.cell hp (by simp)) (by omega) i hi.2
  have hkp := fun w1 {u} (hL : Lent w1 w.heap.size 5 u bs) (ho : OnlyIn [] w w1) => KeptBytes_any w1 u _ _ bs hL (hrb.cells fun p u hp => ho.cell hp (by simp)) (by omega)
  obtain ⟨⟨x, m, er⟩, hx⟩ : ∃ x, getT KT bs i = x := ⟨_, rfl⟩
  rw [hx] at hg1 hg2
  simp only at hg1 hg2
  have bx : (x == x) = true := by simp
  have bm : (m == m) = true := by simp
  have be : (er == er) = true := by simp
  obtain ⟨NB, hNB⟩ : ∃ NB, bs.length = NB := ⟨_, rfl⟩
  rw [hNB] at hff h100 hd hln hg2 hkp ⊢
  have HN := Lib.hid (And.intro hNB hx)
  clear hx hrb hbl hNB
  go_enter Try.func3, Try.ntmps3
  go_wp2_with fail
  refine hln.mono ?_
  rintro e w1 ⟨u, rfl, hL, h1⟩
  have hL0 := hL
  obtain ⟨g, off, cap, rfl, -⟩ := hL0
  have hg1' := hg1 w1 hL
  have HL := Lib.hid hL
  clear hg1 hL hln
  have hkp' := fun w1 => hkp w1 (u := .slice (some ⟨g, off, none⟩) bs.length cap)
  rw [HN.out.1] at hg1' hkp' ⊢
  go_wp2_with (first | (go_at_call 15; refine hg1'.mono ?_; rintro e w2 ⟨rfl, h2⟩) | (go_at_call 16; refine (hg2 _ (h1.trans h2)).mono ?_; rintro e w3 ⟨rfl, h3⟩) | (go_at_call 17; refine (hkp' _ (by have := (HL.out.only h2 (by simp)).only h3 (by simp); rwa [HN.out.1] at this) ((h1.trans h2).trans h3)).mono ?_; rintro e w4 ⟨rfl, h4⟩) | (go_at_call 13; refine (haw _).mono ?_; rintro e w5 ⟨rfl, h5⟩))
  go_ret
  exact ⟨rfl, (((h1.trans h2).trans h3).trans h4).trans h5⟩

set_option maxRecDepth 100000 in
set_option maxHeartbeats 2000000 in
theorem KindTells_walk {w : World} (n : Int) (hn : -9223372036854775808 ≤ n ∧ n ≤ 9223372036854775807) :
    Calls Try.prog 4 #[.int .i64 n] w fun e w' => e = .returned (.bool true) ∧ OnlyIn [] w w' := by
  have hp1 := fun w => kPut_any w n hn
  have hp2 := fun w => rkPut_any w n
  have ho1 := fun w => kOf_any w n
  have ho2 := fun w => rkOf_any w n
  have haw := fun w => awake05 w
  obtain ⟨⟨s, es⟩, hs⟩ : ∃ y, putOf (told kz) n = y := ⟨_, rfl⟩
  rw [hs] at hp1 hp2
  simp only at hp1 hp2
  unfold partsL at ho1 ho2
  generalize kOf n 0 = a at ho1 ho2
  generalize kOf n 1 = b at ho1 ho2
  generalize kOf n 2 = c at ho1 ho2
  generalize kOf n 3 = d at ho1 ho2
  generalize kOf n 4 = f at ho1 ho2
  generalize kErr n = er at ho1 ho2
  have bs : (s.toList == s.toList) = true := by simp
  have be : (es == es) = true := by simp
  have br : (er == er) = true := by simp
  have b0 : (a == a) = true := by simp
  have b1 : (b == b) = true := by simp
  have b2 : (c == c) = true := by simp
  have b3 : (d == d) = true := by simp
  have b4 : (f == f) = true := by simp
  clear hs
  go_enter Try.func4, Try.ntmps4
  go_wp2_with (first | (go_at_call 18; refine (hp1 _).mono ?_; rintro e w1 ⟨rfl, h1⟩) | (go_at_call 19; refine (hp2 _).mono ?_; rintro e w2 ⟨rfl, h2⟩) | (go_at_call 20; refine (ho1 _).mono ?_; rintro e w3 ⟨rfl, h3⟩))
  refine (ho2 _).mono ?_
  rintro e w4 ⟨rfl, h4⟩
  have hO := (((Keep.start [] w3).alloc (.cells #[.bool a, .bool b, .bool c, .bool d, .bool f] 33)).only0 h4).alloc (.cells #[.bool a, .bool b, .bool c, .bool d, .bool f] 33)
  have c0 := hO.cell 1 0 rfl rfl
  have c1 := hO.cell 1 1 rfl rfl
  have c2 := hO.cell 1 2 rfl rfl
  have c3 := hO.cell 1 3 rfl rfl
  have c4 := hO.cell 1 4 rfl rfl
  have HO := Lib.hid (((h1.trans h2).trans h3).trans hO.only)
  clear hO h1 h2 h3 h4 hp1 hp2 ho1 ho2
  go_wp2_with (go_at_call 13; refine (haw _).mono ?_; rintro e w5 ⟨rfl, h5⟩)
  go_ret
  exact ⟨by simp, HO.out.trans h5⟩
end Go.Proofs.Ytheihohojmcbiaa
