/-
  Package group and its reference: Get, Open.
-/
import Derived.Test.YtejomjkkjcnfnaaSpares
import Derived.Test.YtejomjkkjcnfnaaGroup
namespace Go.Mine
open Go.RowKit
theorem sparesF_bound {bs : List UInt8} : ∀ {r p : Nat}, (sparesF bs r p).1 = 0 → (sparesF bs r p).2.length ≤ r ∧ p + 9 * (sparesF bs r p).2.length + 1 ≤ 8 * bs.length
  | 0, p, h => by
    rw [sparesF] at h ⊢
    split
    · rename_i h1; rw [if_pos h1] at h; exact absurd h (by decide)
    · rename_i h1; rw [if_neg h1] at h; split
      · exact ⟨by simp, by simp; omega⟩
      · rename_i h2; rw [if_neg h2] at h; exact absurd h (by decide)
  | r + 1, p, h => by
    rw [sparesF] at h ⊢
    split
    · rename_i h1; rw [if_pos h1] at h; exact absurd h (by decide)
    · rename_i h1; rw [if_neg h1] at h; split
      · exact ⟨by simp, by simp; omega⟩
      · rename_i h2; rw [if_neg h2] at h; split
        · rename_i h3; rw [if_pos h3] at h; exact absurd h (by decide)
        · rename_i h3; rw [if_neg h3] at h
          have := sparesF_bound (bs := bs) (r := r) (p := p + 9) h
          simp only [List.length_cons]; omega
theorem sparesOf_bound {bs : List UInt8} {p : Nat} (h : (sparesOf bs p).1 = 0) : (sparesOf bs p).2.2 = 9 * (sparesOf bs p).2.1.length + 1 ∧ (sparesOf bs p).2.1.length ≤ 32 ∧ p + (sparesOf bs p).2.2 ≤ 8 * bs.length := by
  unfold sparesOf at h ⊢
  split
  · rename_i h1
    have := sparesF_bound h1
    exact ⟨rfl, by simp only; omega, by simp only; omega⟩
  · rename_i h1; rw [if_neg h1] at h; exact absurd h h1
/-- The quantiser, the spare bytes, how many bits, the fault. -/
def getN (bs : List UInt8) (i : Nat) : Nat × List UInt8 × Nat × Int :=
  if 8 * bs.length < i + 5 then (0, [], 0, 5) else if numAt bs i 5 = 0 then (0, [], 0, 9)
  else if (sparesOf bs (i + 5)).1 = 0 then (numAt bs i 5, (sparesOf bs (i + 5)).2.1, 5 + (sparesOf bs (i + 5)).2.2, 0) else (0, [], 0, (sparesOf bs (i + 5)).1)
def getAll (bs : List UInt8) (i : Int) : Nat × List UInt8 × Nat × Int := if i < 0 then (0, [], 0, 3) else getN bs i.toNat
/-- What Get tells. -/
def GetEnd (w0 w : World) (e : TypeId) (G : Nat × List UInt8 × Nat × Int) (r : Ending) : Prop :=
  ∃ u, r = .returned (.tuple #[.int .i64 (G.1 : Int), u, .int .i64 (G.2.2.1 : Int), .int .i64 G.2.2.2]) ∧ Sl w w0.heap.size e 1 u G.2.1.length (byteCells G.2.1) ∧ OnlyIn [] w0 w
theorem GetEnd.fault {w0 w : World} {e : TypeId} {x : Int} (h : OnlyIn [] w0 w) : GetEnd w0 w e (0, [], 0, x) (.returned (.tuple #[.int .i64 0, .slice none 0 0, .int .i64 0, .int .i64 x])) :=
  ⟨_, rfl, Sl.nil _ _ _ _, h⟩
theorem getN_bound {bs : List UInt8} {i : Nat} (h : (getN bs i).2.2.2 = 0) : i + (getN bs i).2.2.1 ≤ 8 * bs.length ∧ 6 ≤ (getN bs i).2.2.1 ∧ (getN bs i).2.2.1 = 6 + 9 * (getN bs i).2.1.length ∧ 1 ≤ (getN bs i).1 ∧ (getN bs i).1 ≤ 31 ∧ (getN bs i).2.1.length ≤ 32 := by
  unfold getN at h ⊢
  split
  · rename_i h1; rw [if_pos h1] at h; exact absurd h (by decide)
  · rename_i h1; rw [if_neg h1] at h; split
    · rename_i h2; rw [if_pos h2] at h; exact absurd h (by decide)
    · rename_i h2; rw [if_neg h2] at h; split
      · rename_i h3
        have hb := sparesOf_bound h3
        have := numAt_lt bs i 5
        refine ⟨?_, ?_, ?_, ?_, ?_, ?_⟩ <;> simp only <;> omega
      · rename_i h3; rw [if_neg h3] at h; exact absurd h h3
end Go.Mine
namespace Go.Proofs.Ytejomjkkjcnfnaa
open Go.RowKit Go.Mine

set_option maxRecDepth 100000 in
theorem rGet_any (w : World) (v : Value) (bs : List UInt8) (hr : Rd w 1 v bs.length (byteCells bs)) (hl : bs.length ≤ 1000000000) (i : Int) (hi : i ≤ 9223372036854775807) :
    Calls Try.prog 39 #[v, .int .i64 i] w fun e w' => GetEnd w w' 5 (getAll bs i) e := by
  have hr' := hr
  obtain ⟨-, A, c, rfl, hc, -⟩ := hr'
  have h1 := rRead_all w _ bs hr hl i 5 hi
  by_cases hn : i < 0
  · rw [readOf, if_pos (.inl hn)] at h1
    rw [getAll, if_pos hn]
    clear hr
    go_enter Try.func39, Try.ntmps39
    go_wp2_with (go_at_call 61; refine h1.mono ?_; rintro e w1 ⟨rfl, ht1⟩)
    ((try simp only [Exit.inBlock, Exit.then, Exit.noGoto]); refine bodyPost_ret (Go.Mine.results_tmp4 rfl _ _ _) rfl ?_)
    exact GetEnd.fault ht1
  rw [getAll, if_neg hn]
  obtain ⟨i, rfl⟩ := Int.eq_ofNat_of_zero_le (by omega : 0 ≤ i)
  simp only [Int.toNat_natCast]
  by_cases hm : 8 * bs.length < i + 5
  · rw [readOf, if_neg (by omega), if_pos (by omega)] at h1
    rw [getN, if_pos hm]
    clear hr
    go_enter Try.func39, Try.ntmps39
    go_wp2_with (go_at_call 61; refine h1.mono ?_; rintro e w1 ⟨rfl, ht1⟩)
    ((try simp only [Exit.inBlock, Exit.then, Exit.noGoto]); refine bodyPost_ret (Go.Mine.results_tmp4 rfl _ _ _) rfl ?_)
    exact GetEnd.fault ht1
  rw [show (5 : Int) = ((5 : Nat) : Int) from rfl, readOf_ok (by omega) (by omega)] at h1
  rw [getN, if_neg hm]
  by_cases h0 : numAt bs i 5 = 0
  · rw [if_pos h0]
    rw [h0] at h1
    clear hr
    go_enter Try.func39, Try.ntmps39
    go_wp2_with (go_at_call 61; refine h1.mono ?_; rintro e w1 ⟨rfl, ht1⟩)
    ((try simp only [Exit.inBlock, Exit.then, Exit.noGoto]); refine bodyPost_ret (Go.Mine.results_tmp4 rfl _ _ _) rfl ?_)
    exact GetEnd.fault ht1
  rw [if_neg h0]
  have hql := numAt_lt bs i 5
  obtain ⟨q, hq⟩ : ∃ q, numAt bs i 5 = q := ⟨_, rfl⟩
  rw [hq] at h1 h0 hql ⊢
  have hqi : ¬ (q : Int) = 0 := by omega
  have h2 := fun W (hW : OnlyIn [] w W) => rSpares_any W _ bs (hr.cells fun p u hp => hW.cell hp (by simp)) hl (i + 5) (by omega)
  rw [show (((i + 5 : Nat) : Nat) : Int) = (i : Int) + 5 from by omega] at h2
  have hsb := fun h => sparesOf_bound (bs := bs) (p := i + 5) h
  obtain ⟨⟨er, l, n⟩, hS⟩ : ∃ S, sparesOf bs (i + 5) = S := ⟨_, rfl⟩
  rw [hS] at h2 hsb ⊢
  simp only at h2 hsb ⊢
  clear hS hq hr
  by_cases he : er = 0
  · subst he
    rw [if_pos rfl]
    obtain ⟨hb1, hb2, hb3⟩ := hsb rfl
    clear hsb
    have hnb : n ≤ 300 := by omega
    clear hb1 hb3
    go_enter Try.func39, Try.ntmps39
    go_wp2_with (first | (go_at_call 61; refine h1.mono ?_; rintro e w1 ⟨rfl, ht1⟩) | (go_at_call 62; refine (h2 _ ht1).mono ?_; rintro e w2 ⟨u2, rfl, hs2, ht2⟩))
    ((try simp only [Exit.inBlock, Exit.then, Exit.noGoto]); refine bodyPost_ret (Go.Mine.results_tmp4 rfl _ _ _) rfl ?_)
    refine ⟨u2, ?_, ?_, ht1.trans ht2⟩
    · show Ending.returned (.tuple #[_, _, .int .i64 (5 + (n : Int)), _]) = _
      push_cast
      rfl
    · exact hs2.mono ht1.size
  · rw [if_neg he]
    clear hsb
    go_enter Try.func39, Try.ntmps39
    go_wp2_with (first | (go_at_call 61; refine h1.mono ?_; rintro e w1 ⟨rfl, ht1⟩) | (go_at_call 62; refine (h2 _ ht1).mono ?_; rintro e w2 ⟨u2, rfl, hs2, ht2⟩))
    ((try simp only [Exit.inBlock, Exit.then, Exit.noGoto]); refine bodyPost_ret (Go.Mine.results_tmp4 rfl _ _ _) rfl ?_)
    exact GetEnd.fault (ht1.trans ht2)

set_option maxRecDepth 100000 in
set_option maxHeartbeats 1000000 in
theorem gGet_any (w : World) (v : Value) (bs : List UInt8) (hr : Rd w 1 v bs.length (byteCells bs)) (hl : bs.length ≤ 1000000000) (i : Int) (hi : i ≤ 9223372036854775807) :
    Calls Try.prog 38 #[v, .int .i64 i] w fun e w' => GetEnd w w' 5 (getAll bs i) e := by
  obtain ⟨i0, hi0, hz0, hz1, hz2⟩ := info_parts Try.infoB
  have hr' := hr
  obtain ⟨-, A, c, rfl, hc, -⟩ := hr'
  by_cases hn : i < 0
  · rw [getAll, if_pos hn]
    clear hr
    go_enter Try.func38, Try.ntmps38
    go_wp2_with fail
    refine wp_scope_straight ?_
    go_wp2
    ((try simp only [Exit.inBlock, Exit.then, Exit.noGoto]); refine bodyPost_ret (Go.Mine.results_tmp4 rfl _ _ _) rfl ?_)
    exact GetEnd.fault (OnlyIn.refl _ _)
  rw [getAll, if_neg hn]
  obtain ⟨i, rfl⟩ := Int.eq_ofNat_of_zero_le (by omega : 0 ≤ i)
  simp only [Int.toNat_natCast]
  by_cases hb : 8 * (bs.length : Int) < (i : Int)
  · rw [getN, if_pos (by omega)]
    clear hr
    go_enter Try.func38, Try.ntmps38
    go_wp2_with fail
    refine wp_scope_straight ?_
    go_wp2_with (go_at_call 27; refine (Count_any _ A bs.length c hl).mono ?_; rintro e w' ⟨rfl, rfl⟩)
    ((try simp only [Exit.inBlock, Exit.then, Exit.noGoto]); refine bodyPost_ret (Go.Mine.results_tmp4 rfl _ _ _) rfl ?_)
    exact GetEnd.fault (OnlyIn.refl _ _)
  have h1 := fun W (hW : OnlyIn [] w W) => Read_all W _ bs (hr.cells fun p u hp => hW.cell hp (by simp)) hl i 5 hi
  by_cases hm : 8 * bs.length < i + 5
  · rw [readOf, if_neg (by omega), if_pos (by omega)] at h1
    rw [getN, if_pos hm]
    clear hr
    go_enter Try.func38, Try.ntmps38
    go_wp2_with fail
    refine wp_scope_straight ?_
    go_wp2_with (first | (go_at_call 27; refine (Count_any _ A bs.length c hl).mono ?_; rintro e w' ⟨rfl, rfl⟩) | (go_at_call 35; refine (h1 _ (OnlyIn.refl _ _)).mono ?_; rintro e w1 ⟨rfl, rfl⟩))
    ((try simp only [Exit.inBlock, Exit.then, Exit.noGoto]); refine bodyPost_ret (Go.Mine.results_tmp4 rfl _ _ _) rfl ?_)
    exact GetEnd.fault (OnlyIn.refl _ _)
  rw [show (5 : Int) = ((5 : Nat) : Int) from rfl, readOf_ok (by omega) (by omega)] at h1
  rw [getN, if_neg hm]
  by_cases h0 : numAt bs i 5 = 0
  · rw [if_pos h0]
    rw [h0] at h1
    clear hr
    go_enter Try.func38, Try.ntmps38
    go_wp2_with fail
    refine wp_scope_straight ?_
    go_wp2_with (first | (go_at_call 27; refine (Count_any _ A bs.length c hl).mono ?_; rintro e w' ⟨rfl, rfl⟩) | (go_at_call 35; refine (h1 _ (OnlyIn.refl _ _)).mono ?_; rintro e w1 ⟨rfl, rfl⟩))
    ((try simp only [Exit.inBlock, Exit.then, Exit.noGoto]); refine bodyPost_ret (Go.Mine.results_tmp4 rfl _ _ _) rfl ?_)
    exact GetEnd.fault (OnlyIn.refl _ _)
  rw [if_neg h0]
  have hql := numAt_lt bs i 5
  obtain ⟨q, hq⟩ : ∃ q, numAt bs i 5 = q := ⟨_, rfl⟩
  rw [hq] at h1 h0 hql ⊢
  have hqi : ¬ (q : Int) = 0 := by omega
  have hrd := fun W (hW : OnlyIn [] w W) x n (hx : x ≤ 9223372036854775807) => Read_all W _ bs (hr.cells fun p u hp => hW.cell hp (by simp)) hl x n hx
  clear hq hr
  have hiS : i + 5 ≤ 8 * bs.length := by omega
  have hst := SpAt.start (w := w) (e := 5) hiS
  have HM := Lib.hid hm
  clear hm
  have hd1 : decide ((i : Int) < 0) = false := decide_eq_false (by omega)
  have hd2 : decide (8 * (bs.length : Int) < (i : Int)) = false := decide_eq_false (by omega)
  have hd3 : ((q : Int) == 0) = false := by simp; omega
  go_enter Try.func38, Try.ntmps38
  go_wp2_with fail
  refine wp_scope_straight ?_
  go_wp2_with (first | (go_at_call 27; refine (Count_any _ A bs.length c hl).mono ?_; rintro e w' ⟨rfl, rfl⟩) | (go_at_call 35; refine (h1 _ (OnlyIn.refl _ _)).mono ?_; rintro e w1 ⟨rfl, rfl⟩))
  clear h1
  refine wp_label ?_
  go_wp2_with fail
  go_loopw [10, 11] (fun u m wr => ∃ k : Nat, m = .int .i64 ((5 + 9 * k : Nat) : Int) ∧ SpAt w wr 5 bs (i + 5) u k) (fun _ m _ => 8 * bs.length + 9 - (intOf m).toNat)
  case atStart => exact ⟨0, rfl, hst⟩
  case round =>
    clear hst
    obtain ⟨k, rfl, hS⟩ := hrel
    obtain ⟨B, d, rfl, hd⟩ := hS.val
    obtain ⟨N, hN⟩ : ∃ N, 5 + 9 * k = N := ⟨_, rfl⟩
    have hk32 := hS.k32
    have hiN : i + 5 + 9 * k = i + N := by omega
    have hNl : i + N ≤ 8 * bs.length := by rw [← hN]; have := hS.lt; omega
    have hN5 : 5 ≤ N := by omega
    have h1 := hrd wr hS.on ((i : Int) + (N : Int)) 1 (by omega)
    rw [hN]
    by_cases hm : 8 * bs.length < i + N + 1
    · have hso := hS.fault (er := 5) (by decide) (by rw [hiN, sparesF_more hm])
      have hre : readOf bs ((i : Int) + (N : Int)) 1 = (0, 5) := by rw [readOf, if_neg (by omega), if_pos (by omega)]
      rw [hre] at h1
      have HH := Lib.hid (And.intro hso hS)
      clear hso hS hrd hre hN hiN
      go_wp2_with (go_at_call 35; refine h1.mono ?_; rintro e w1 ⟨rfl, rfl⟩)
      ((try simp only [Exit.inBlock, Exit.then, Exit.noGoto]); refine bodyPost_ret (Go.Mine.results_tmp4 rfl _ _ _) rfl ?_)
      obtain ⟨hso, hS⟩ := HH.out
      rw [hso]
      exact GetEnd.fault hS.on
    have hre : readOf bs ((i : Int) + (N : Int)) 1 = ((numAt bs (i + N) 1 : Int), 0) := by
      rw [← readOf_ok (bs := bs) (i := i + N) (n := 1) (by omega) (by omega)]; congr 1
    rw [hre] at h1
    clear hre
    by_cases h0 : numAt bs (i + N) 1 = 0
    · have hso := hS.done (by rw [hiN, sparesF_end hm h0])
      rw [h0] at h1
      obtain ⟨ys, hso, hend⟩ := hso
      have hNk : ((5 + (9 * k + 1) : Nat) : Int) = (N : Int) + 1 := by omega
      have HH := Lib.hid (And.intro hNk (And.intro hso hend))
      clear hso hend hNk hS hrd hN hiN
      go_wp2_with (go_at_call 35; refine h1.mono ?_; rintro e w1 ⟨rfl, rfl⟩)
      ((try simp only [Exit.inBlock, Exit.then, Exit.noGoto]); refine bodyPost_ret (Go.Mine.results_tmp4 rfl _ _ _) rfl ?_)
      obtain ⟨hNk, hso, hend⟩ := HH.out
      rw [hso]
      obtain ⟨he1, he2⟩ := hend _ (OnlyIn.refl _ _)
      refine ⟨_, ?_, he1, he2⟩
      show _ = Ending.returned (.tuple #[_, _, .int .i64 ((5 + (9 * k + 1) : Nat) : Int), _])
      rw [hNk]
      rfl
    have hx1 : numAt bs (i + N) 1 < 2 := numAt_lt bs _ 1
    obtain ⟨x, hx⟩ : ∃ x, numAt bs (i + N) 1 = x := ⟨_, rfl⟩
    have h0' := h0
    rw [hx] at h0 hx1
    obtain rfl : x = 1 := by omega
    rw [hx] at h1
    by_cases hk : k = 32
    · have hso := hS.fault (er := 4) (by decide) (by rw [hiN, hk, sparesF_long hm h0'])
      subst hk
      have HH := Lib.hid (And.intro hso hS)
      clear hso hS hrd hN hx hiN
      go_wp2_with (go_at_call 35; refine h1.mono ?_; rintro e w1 ⟨rfl, rfl⟩)
      ((try simp only [Exit.inBlock, Exit.then, Exit.noGoto]); refine bodyPost_ret (Go.Mine.results_tmp4 rfl _ _ _) rfl ?_)
      obtain ⟨hso, hS⟩ := HH.out
      rw [hso]
      exact GetEnd.fault hS.on
    have hki : ¬ (k : Int) = 32 := by omega
    have h2 := fun W hW => hrd W hW ((i : Int) + (N : Int) + 1) 8 (by omega)
    by_cases h9 : 8 * bs.length < i + N + 9
    · have hso := hS.fault (er := 5) (by decide) (by rw [hiN, show 32 - k = (32 - (k + 1)) + 1 by omega, sparesF_more9 hm h0' h9])
      have hre : readOf bs ((i : Int) + (N : Int) + 1) 8 = (0, 5) := by rw [readOf, if_neg (by omega), if_pos (by omega)]
      rw [hre] at h2
      have hon := hS.on
      have HH := Lib.hid (And.intro hso hS)
      have tok : True := trivial
      clear hso hS hrd hN hx hre hiN
      go_wp2_with (first | (go_at_call 35; have _t := tok; refine h1.mono ?_; rintro e w1 ⟨rfl, rfl⟩; clear tok _t) | (go_at_call 35; refine (h2 _ hon).mono ?_; rintro e w2 ⟨rfl, rfl⟩))
      ((try simp only [Exit.inBlock, Exit.then, Exit.noGoto]); refine bodyPost_ret (Go.Mine.results_tmp4 rfl _ _ _) rfl ?_)
      obtain ⟨hso, hS⟩ := HH.out
      rw [hso]
      exact GetEnd.fault hS.on
    have hre : readOf bs ((i : Int) + (N : Int) + 1) 8 = ((numAt bs (i + N + 1) 8 : Int), 0) := by
      rw [← readOf_ok (bs := bs) (i := i + N + 1) (n := 8) (by omega) (by omega)]; congr 1
    rw [hre] at h2
    have hy8 : numAt bs (i + N + 1) 8 < 256 := numAt_lt bs _ 8
    obtain ⟨y, hy⟩ : ∃ y, numAt bs (i + N + 1) 8 = y := ⟨_, rfl⟩
    rw [hy] at h2 hy8
    have hon := hS.on
    have hwu : IntKind.u8.wrap (y : Int) = (y : Int) := by rw [IntKind.wrap_u8]; omega
    rw [← hiN] at hm h0' h9 hy
    obtain ⟨ys, hsl, happ⟩ := hS.app (by omega) h0' h9 hy
    have hmeas : 8 * bs.length + 9 - (N + 9) < 8 * bs.length + 9 - N := by omega
    have hN9 : 5 + 9 * (k + 1) = N + 9 := by omega
    have HH := Lib.hid (And.intro @happ trivial)
    have HN := Lib.hid hN9
    have hbase := hS.on.size
    have tok : True := trivial
    clear happ hS hrd hx hre h0' h9 hm hy hN9 hN hiN
    go_wp2_with (first | (go_at_call 35; have _t := tok; refine h1.mono ?_; rintro e w1 ⟨rfl, rfl⟩; clear tok _t) | (go_at_call 35; refine (h2 _ hon).mono ?_; rintro e w2 ⟨rfl, rfl⟩) | (at_builtin; refine wpList_append_sl rfl _ _ 28 rfl w.heap.size 5 i0 _ 1 1 Try.underlying28 hi0 hz0 hz1 hz2 rfl (by decide) (.slice B k d) k (byteCells ys) rfl (hsl.alloc (.cells #[.int .u8 (y : Int)] 5)) (.slice (some ⟨wr.heap.size, 0, none⟩) 1 1) 1 [.int .u8 (y : Int)] rfl (Rd.lit wr [.int .u8 (y : Int)] 5 1 rfl) (by simp [Value.oneCell']) (by simp only [maxLen]; omega) (by omega) (by simp; omega) ?_; intro v5 w5 hs5 hg5 hat5; have HR := Lib.hid (HH.out.1 ((OnlyIn.refl [] _).alloc _) hs5 hg5); clear hs5 hg5 hat5 hsl HH))
    go_roundw
    case rel => exact ⟨k + 1, by rw [HN.out]; push_cast; rfl, HR.out⟩
    case measure => simp [intOf]; exact hmeas
end Go.Proofs.Ytejomjkkjcnfnaa
