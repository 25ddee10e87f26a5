/-
  Package group and its reference: Open.
-/
import Derived.Test.YtejomjkkjcnfnaaGroupGet
import Derived.Test.YtejomjkkjcnfnaaRefStart
namespace Go.Mine
open Go.RowKit
/-- The number, the quantiser, the spare bytes, how many bits, the fault. -/
def openAll (bs : List UInt8) (i : Int) : Int × Nat × List UInt8 × Int × Int :=
  if (startAll bs i).2.2 ≠ 0 then (0, 0, [], 0, (startAll bs i).2.2) else if (startAll bs i).1 = 0 then (0, 0, [], 0, 2)
  else if (getAll bs (i + (startAll bs i).2.1)).2.2.2 ≠ 0 then (0, 0, [], 0, (getAll bs (i + (startAll bs i).2.1)).2.2.2)
  else ((startAll bs i).1, (getAll bs (i + (startAll bs i).2.1)).1, (getAll bs (i + (startAll bs i).2.1)).2.1, (startAll bs i).2.1 + ((getAll bs (i + (startAll bs i).2.1)).2.2.1 : Int), 0)
theorem startAll_bound {bs : List UInt8} {i : Int} (h : (startAll bs i).2.2 = 0) : 0 ≤ i ∧ 0 ≤ (startAll bs i).1 ∧ (startAll bs i).1 ≤ 15 ∧ 20 ≤ (startAll bs i).2.1 ∧ i + (startAll bs i).2.1 ≤ 8 * (bs.length : Int) := by
  unfold startAll at h ⊢
  by_cases h1 : i < 0
  · rw [if_pos h1] at h; exact absurd h (by decide)
  · rw [if_neg h1] at h ⊢
    obtain ⟨i, rfl⟩ := Int.eq_ofNat_of_zero_le (by omega : 0 ≤ i)
    simp only [Int.toNat_natCast] at h ⊢
    unfold startOf at h ⊢
    by_cases h2 : 8 * bs.length ≤ i + noughts bs i
    · rw [if_pos h2] at h; exact absurd h (by decide)
    · rw [if_neg h2] at h ⊢
      by_cases h3 : noughts bs i < 15
      · rw [if_pos h3] at h; exact absurd h (by decide)
      · rw [if_neg h3] at h ⊢
        by_cases h4 : i + noughts bs i + 5 ≤ 8 * bs.length
        · rw [if_pos h4] at h ⊢
          have := numAt_lt bs (i + noughts bs i + 1) 4
          refine ⟨?_, ?_, ?_, ?_, ?_⟩ <;> (try simp only) <;> omega
        · rw [if_neg h4] at h; exact absurd h (by decide)
theorem getAll_bound {bs : List UInt8} {i : Int} (h : (getAll bs i).2.2.2 = 0) : 0 ≤ i ∧ i + ((getAll bs i).2.2.1 : Int) ≤ 8 * (bs.length : Int) ∧ (getAll bs i).2.2.1 = 6 + 9 * (getAll bs i).2.1.length ∧ 1 ≤ (getAll bs i).1 ∧ (getAll bs i).1 ≤ 31 ∧ (getAll bs i).2.1.length ≤ 32 := by
  unfold getAll at h ⊢
  by_cases h1 : i < 0
  · rw [if_pos h1] at h; exact absurd h (by decide)
  · rw [if_neg h1] at h ⊢
    obtain ⟨i, rfl⟩ := Int.eq_ofNat_of_zero_le (by omega : 0 ≤ i)
    simp only [Int.toNat_natCast] at h ⊢
    have := getN_bound h
    omega
/-- What Open tells. -/
def OpenEnd (w0 w : World) (e : TypeId) (G : Int × Nat × List UInt8 × Int × Int) (r : Ending) : Prop :=
  ∃ u, r = .returned (.tuple #[.int .i64 G.1, .int .i64 (G.2.1 : Int), u, .int .i64 G.2.2.2.1, .int .i64 G.2.2.2.2]) ∧ Sl w w0.heap.size e 1 u G.2.2.1.length (byteCells G.2.2.1) ∧ OnlyIn [] w0 w
theorem OpenEnd.fault {w0 w : World} {e : TypeId} {x : Int} (h : OnlyIn [] w0 w) : OpenEnd w0 w e (0, 0, [], 0, x) (.returned (.tuple #[.int .i64 0, .int .i64 0, .slice none 0 0, .int .i64 0, .int .i64 x])) :=
  ⟨_, rfl, Sl.nil _ _ _ _, h⟩
end Go.Mine
namespace Go.Proofs.Ytejomjkkjcnfnaa
open Go.RowKit Go.Mine

set_option maxRecDepth 100000 in
theorem gOpen_any (w : World) (v : Value) (bs : List UInt8) (hr : Rd w 1 v bs.length (byteCells bs)) (hl : bs.length ≤ 1000000000) (i : Int) (hi : i ≤ 9223372036854775807) :
    Calls Try.prog 40 #[v, .int .i64 i] w fun e w' => OpenEnd w w' 5 (openAll bs i) e := by
  have h1 := Start_all w v bs hr hl i
  have hsb := fun h => startAll_bound (bs := bs) (i := i) h
  unfold openAll
  obtain ⟨⟨x, n, er⟩, hS⟩ : ∃ S, startAll bs i = S := ⟨_, rfl⟩
  rw [hS] at h1 hsb ⊢
  simp only at h1 hsb ⊢
  clear hS
  by_cases he : er = 0
  · subst he
    rw [if_neg (by simp)]
    obtain ⟨b1, b2, b3, b4, b5⟩ := hsb rfl
    by_cases hx : x = 0
    · subst hx
      rw [if_pos rfl]
      clear hr hsb
      go_enter Try.func40, Try.ntmps40
      go_wp2_with (go_at_call 34; refine h1.mono ?_; rintro e w1 ⟨rfl, ht1⟩)
      ((try simp only [Exit.inBlock, Exit.then, Exit.noGoto]); refine bodyPost_ret (Go.Mine.results_tmp5 rfl _ _ _) rfl ?_)
      exact OpenEnd.fault ht1
    rw [if_neg hx]
    have h2 := fun W (hW : OnlyIn [] w W) => gGet_any W v bs (hr.cells fun p u hp => hW.cell hp (by simp)) hl (i + n) (by omega)
    have hgb := fun h => getAll_bound (bs := bs) (i := i + n) h
    obtain ⟨⟨q, l, m, er⟩, hG⟩ : ∃ G, getAll bs (i + n) = G := ⟨_, rfl⟩
    rw [hG] at h2 hgb ⊢
    simp only at hgb ⊢
    clear hG hr hsb
    by_cases he : er = 0
    · subst he
      rw [if_neg (by simp)]
      obtain ⟨g1, g2, -⟩ := hgb rfl
      clear hgb
      go_enter Try.func40, Try.ntmps40
      go_wp2_with (first | (go_at_call 34; refine h1.mono ?_; rintro e w1 ⟨rfl, ht1⟩) | (go_at_call 38; refine (h2 _ ht1).mono ?_; rintro e w2 ⟨u2, rfl, hs2, ht2⟩))
      ((try simp only [Exit.inBlock, Exit.then, Exit.noGoto]); refine bodyPost_ret (Go.Mine.results_tmp5 rfl _ _ _) rfl ?_)
      exact ⟨u2, rfl, hs2.mono ht1.size, ht1.trans ht2⟩
    · rw [if_pos he]
      clear hgb
      go_enter Try.func40, Try.ntmps40
      go_wp2_with (first | (go_at_call 34; refine h1.mono ?_; rintro e w1 ⟨rfl, ht1⟩) | (go_at_call 38; refine (h2 _ ht1).mono ?_; rintro e w2 ⟨u2, rfl, hs2, ht2⟩))
      ((try simp only [Exit.inBlock, Exit.then, Exit.noGoto]); refine bodyPost_ret (Go.Mine.results_tmp5 rfl _ _ _) rfl ?_)
      exact OpenEnd.fault (ht1.trans ht2)
  · rw [if_pos he]
    clear hr hsb
    go_enter Try.func40, Try.ntmps40
    go_wp2_with (go_at_call 34; refine h1.mono ?_; rintro e w1 ⟨rfl, ht1⟩)
    ((try simp only [Exit.inBlock, Exit.then, Exit.noGoto]); refine bodyPost_ret (Go.Mine.results_tmp5 rfl _ _ _) rfl ?_)
    exact OpenEnd.fault ht1

set_option maxRecDepth 100000 in
theorem rOpen_any (w : World) (v : Value) (bs : List UInt8) (hr : Rd w 1 v bs.length (byteCells bs)) (hl : bs.length ≤ 1000000000) (i : Int) (hi : i ≤ 9223372036854775807) :
    Calls Try.prog 41 #[v, .int .i64 i] w fun e w' => OpenEnd w w' 5 (openAll bs i) e := by
  have h1 := rStart_all w v bs hr hl i
  have hsb := fun h => startAll_bound (bs := bs) (i := i) h
  unfold openAll
  obtain ⟨⟨x, n, er⟩, hS⟩ : ∃ S, startAll bs i = S := ⟨_, rfl⟩
  rw [hS] at h1 hsb ⊢
  simp only at h1 hsb ⊢
  clear hS
  by_cases he : er = 0
  · subst he
    rw [if_neg (by simp)]
    obtain ⟨b1, b2, b3, b4, b5⟩ := hsb rfl
    by_cases hx : x = 0
    · subst hx
      rw [if_pos rfl]
      clear hr hsb
      go_enter Try.func41, Try.ntmps41
      go_wp2_with (go_at_call 63; refine h1.mono ?_; rintro e w1 ⟨rfl, ht1⟩)
      ((try simp only [Exit.inBlock, Exit.then, Exit.noGoto]); refine bodyPost_ret (Go.Mine.results_tmp5 rfl _ _ _) rfl ?_)
      exact OpenEnd.fault ht1
    rw [if_neg hx]
    have h2 := fun W (hW : OnlyIn [] w W) => rGet_any W v bs (hr.cells fun p u hp => hW.cell hp (by simp)) hl (i + n) (by omega)
    have hgb := fun h => getAll_bound (bs := bs) (i := i + n) h
    obtain ⟨⟨q, l, m, er⟩, hG⟩ : ∃ G, getAll bs (i + n) = G := ⟨_, rfl⟩
    rw [hG] at h2 hgb ⊢
    simp only at hgb ⊢
    clear hG hr hsb
    by_cases he : er = 0
    · subst he
      rw [if_neg (by simp)]
      obtain ⟨g1, g2, -⟩ := hgb rfl
      clear hgb
      go_enter Try.func41, Try.ntmps41
      go_wp2_with (first | (go_at_call 63; refine h1.mono ?_; rintro e w1 ⟨rfl, ht1⟩) | (go_at_call 39; refine (h2 _ ht1).mono ?_; rintro e w2 ⟨u2, rfl, hs2, ht2⟩))
      ((try simp only [Exit.inBlock, Exit.then, Exit.noGoto]); refine bodyPost_ret (Go.Mine.results_tmp5 rfl _ _ _) rfl ?_)
      exact ⟨u2, rfl, hs2.mono ht1.size, ht1.trans ht2⟩
    · rw [if_pos he]
      clear hgb
      go_enter Try.func41, Try.ntmps41
      go_wp2_with (first | (go_at_call 63; refine h1.mono ?_; rintro e w1 ⟨rfl, ht1⟩) | (go_at_call 39; refine (h2 _ ht1).mono ?_; rintro e w2 ⟨u2, rfl, hs2, ht2⟩))
      ((try simp only [Exit.inBlock, Exit.then, Exit.noGoto]); refine bodyPost_ret (Go.Mine.results_tmp5 rfl _ _ _) rfl ?_)
      exact OpenEnd.fault (ht1.trans ht2)
  · rw [if_pos he]
    clear hr hsb
    go_enter Try.func41, Try.ntmps41
    go_wp2_with (go_at_call 63; refine h1.mono ?_; rintro e w1 ⟨rfl, ht1⟩)
    ((try simp only [Exit.inBlock, Exit.then, Exit.noGoto]); refine bodyPost_ret (Go.Mine.results_tmp5 rfl _ _ _) rfl ?_)
    exact OpenEnd.fault ht1
end Go.Proofs.Ytejomjkkjcnfnaa
