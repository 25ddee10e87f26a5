/-
  The reference's Spares: which spare bytes begin at a place.
-/
import Derived.Test.YtboipjdgccbjmaaRef01
import Derived.Test.YtboipjdgccbjmaaText2
import Derived.OwnWalk
namespace Go.Mine
open Go.RowKit
theorem results_tmp4 {fn : Func} {t u v x : Tmp} (h : fn.results = #[.tmp t, .tmp u, .tmp v, .tmp x]) (tmps : Array Value) (P : Program) (w : World) :
    (results fn tmps).run P w = .ok (.tuple #[tmps.getD t undef, tmps.getD u undef, tmps.getD v undef, tmps.getD x undef]) w := by
  simp [results, h]
theorem results_tmp5 {fn : Func} {t u v x y : Tmp} (h : fn.results = #[.tmp t, .tmp u, .tmp v, .tmp x, .tmp y]) (tmps : Array Value) (P : Program) (w : World) :
    (results fn tmps).run P w = .ok (.tuple #[tmps.getD t undef, tmps.getD u undef, tmps.getD v undef, tmps.getD x undef, tmps.getD y undef]) w := by
  simp [results, h]

/-- The spare bytes from a place on, r at most, and the fault. -/
def sparesF (bs : List UInt8) : Nat → Nat → Int × List UInt8
  | 0, p => if 8 * bs.length < p + 1 then (5, []) else if numAt bs p 1 = 0 then (0, []) else (4, [])
  | r + 1, p => if 8 * bs.length < p + 1 then (5, []) else if numAt bs p 1 = 0 then (0, []) else if 8 * bs.length < p + 9 then (5, [])
    else ((sparesF bs r (p + 9)).1, UInt8.ofNat (numAt bs (p + 1) 8) :: (sparesF bs r (p + 9)).2)
/-- The fault, the bytes, how many bits. -/
def sparesOf (bs : List UInt8) (p : Nat) : Int × List UInt8 × Nat :=
  if (sparesF bs 32 p).1 = 0 then (0, (sparesF bs 32 p).2, 9 * (sparesF bs 32 p).2.length + 1) else ((sparesF bs 32 p).1, [], 0)
theorem sparesF_more {bs : List UInt8} {r p : Nat} (h : 8 * bs.length < p + 1) : sparesF bs r p = (5, []) := by
  cases r <;> rw [sparesF, if_pos h]
theorem sparesF_end {bs : List UInt8} {r p : Nat} (h : ¬ 8 * bs.length < p + 1) (h0 : numAt bs p 1 = 0) : sparesF bs r p = (0, []) := by
  cases r <;> rw [sparesF, if_neg h, if_pos h0]
theorem sparesF_long {bs : List UInt8} {p : Nat} (h : ¬ 8 * bs.length < p + 1) (h0 : ¬ numAt bs p 1 = 0) : sparesF bs 0 p = (4, []) := by
  rw [sparesF, if_neg h, if_neg h0]
theorem sparesF_more9 {bs : List UInt8} {r p : Nat} (h : ¬ 8 * bs.length < p + 1) (h0 : ¬ numAt bs p 1 = 0) (h9 : 8 * bs.length < p + 9) : sparesF bs (r + 1) p = (5, []) := by
  rw [sparesF, if_neg h, if_neg h0, if_pos h9]
theorem sparesF_step {bs : List UInt8} {r p : Nat} (h0 : ¬ numAt bs p 1 = 0) (h9 : ¬ 8 * bs.length < p + 9) :
    sparesF bs (r + 1) p = ((sparesF bs r (p + 9)).1, UInt8.ofNat (numAt bs (p + 1) 8) :: (sparesF bs r (p + 9)).2) := by
  rw [sparesF, if_neg (by omega), if_neg h0, if_neg h9]

/-- So far: these bytes were read. -/
structure SpAt (w0 w : World) (e : TypeId) (bs : List UInt8) (p : Nat) (v : Value) (k : Nat) : Prop where
  on : OnlyIn [] w0 w
  k32 : k ≤ 32
  lt : p + 9 * k ≤ 8 * bs.length
  so : ∃ ys : List UInt8, ys.length = k ∧ Sl w w0.heap.size e 1 v k (byteCells ys) ∧ sparesF bs 32 p = ((sparesF bs (32 - k) (p + 9 * k)).1, ys ++ (sparesF bs (32 - k) (p + 9 * k)).2)
/-- What is told of spare bytes. -/
def SpEnd (w0 w : World) (e : TypeId) (R : Int × List UInt8 × Nat) (u : Value) : Prop := Sl w w0.heap.size e 1 u R.2.1.length (byteCells R.2.1) ∧ OnlyIn [] w0 w
section
variable {w0 w w2 : World} {e : TypeId} {bs : List UInt8} {p k : Nat} {v : Value}
theorem SpAt.val (h : SpAt w0 w e bs p v k) : ∃ A c, v = .slice A k c ∧ k ≤ c := by
  obtain ⟨ys, h1, h2, h3⟩ := h.so
  exact h2.val
theorem SpAt.start (hp : p ≤ 8 * bs.length) : SpAt w w e bs p (.slice none 0 0) 0 :=
  ⟨OnlyIn.refl _ _, by omega, by omega, [], rfl, Sl.nil _ _ _ _, rfl⟩
theorem SpAt.only (h : SpAt w0 w e bs p v k) (ht : OnlyIn [] w w2) : SpAt w0 w2 e bs p v k := by
  obtain ⟨h1, h2, h3, ys, h4, h5, h6⟩ := h
  exact ⟨h1.trans ht, h2, h3, ys, h4, h5.only ht (by simp), h6⟩
theorem SpAt.fault (h : SpAt w0 w e bs p v k) {er : Int} (he : er ≠ 0) (hx : (sparesF bs (32 - k) (p + 9 * k)).1 = er) : sparesOf bs p = (er, [], 0) := by
  obtain ⟨h1, h2, h3, ys, h4, h5, h6⟩ := h
  have : (sparesF bs 32 p).1 = er := by rw [h6]; exact hx
  rw [sparesOf, if_neg (by rw [this]; exact he), this]
theorem SpAt.done (h : SpAt w0 w e bs p v k) (hx : sparesF bs (32 - k) (p + 9 * k) = (0, [])) : ∃ ys : List UInt8, sparesOf bs p = (0, ys, 9 * k + 1) ∧ ∀ w2, OnlyIn [] w w2 → SpEnd w0 w2 e (0, ys, 9 * k + 1) v := by
  obtain ⟨h1, h2, h3, ys, h4, h5, h6⟩ := h
  rw [hx, List.append_nil] at h6
  refine ⟨ys, ?_, fun w2 ht => ⟨?_, h1.trans ht⟩⟩
  · rw [sparesOf, if_pos (by rw [h6])]; rw [h6]; simp only [h4]
  · simp only [h4]; exact h5.only ht (by simp)
theorem SpAt.nil (h : SpAt w0 w e bs p v k) {er : Int} : SpEnd w0 w e (er, [], 0) (.slice none 0 0) := ⟨Sl.nil _ _ _ _, h.on⟩
/-- One more byte is laid behind. -/
theorem SpAt.app (h : SpAt w0 w e bs p v k) (hk : k < 32) (h0 : ¬ numAt bs (p + 9 * k) 1 = 0) (h9 : ¬ 8 * bs.length < p + 9 * k + 9) {x : Nat} (hx : numAt bs (p + 9 * k + 1) 8 = x) :
    ∃ ys : List UInt8, Sl w w0.heap.size e 1 v k (byteCells ys) ∧ ∀ {W w2 : World} {v2 : Value}, OnlyIn [] w W → Sl w2 w0.heap.size e 1 v2 (k + 1) (byteCells ys ++ [.int .u8 (x : Int)]) → W.grownBy w2 v.ownBlock → SpAt w0 w2 e bs p v2 (k + 1) := by
  obtain ⟨h1, h2, h3, ys, h4, h5, h6⟩ := h
  have hx8 : x < 256 := by rw [← hx]; exact numAt_lt bs _ 8
  refine ⟨ys, h5, fun {W w2 v2} hW hs2 hg => ?_⟩
  refine ⟨(h1.trans hW).grown hg (fun j hj => .inr (h5.own_lt j hj).1), by omega, by omega, ys ++ [UInt8.ofNat x], by simp [h4], ?_, ?_⟩
  · rw [byteCells_append, show byteCells [UInt8.ofNat x] = [.int .u8 (x : Int)] from by simp only [byteCells, List.map_cons, List.map_nil]; rw [UInt8.toNat_ofNat_of_lt' (show x < 2 ^ 8 by omega)]]
    exact hs2
  · rw [h6, show 32 - k = (32 - (k + 1)) + 1 by omega, sparesF_step h0 h9, hx, show p + 9 * (k + 1) = p + 9 * k + 9 by omega]
    simp
end
theorem sparesF_bound {bs : List UInt8} : ∀ {r p : Nat}, (sparesF bs r p).1 = 0 → (sparesF bs r p).2.length ≤ r ∧ p + 9 * (sparesF bs r p).2.length + 1 ≤ 8 * bs.length
  | 0, p, h => by
    rw [sparesF] at h ⊢
    split
    · rename_i h1; rw [if_pos h1] at h; exact absurd h (by decide)
    · rename_i h1; rw [if_neg h1] at h; split
      · exact ⟨by simp, by simp; omega⟩
      · rename_i h2; rw [if_neg h2] at h; exact absurd h (by decide)
  | r + 1, p, h => by
    rw [sparesF] at h ⊢
    split
    · rename_i h1; rw [if_pos h1] at h; exact absurd h (by decide)
    · rename_i h1; rw [if_neg h1] at h; split
      · exact ⟨by simp, by simp; omega⟩
      · rename_i h2; rw [if_neg h2] at h; split
        · rename_i h3; rw [if_pos h3] at h; exact absurd h (by decide)
        · rename_i h3; rw [if_neg h3] at h
          have := sparesF_bound (bs := bs) (r := r) (p := p + 9) h
          simp only [List.length_cons]; omega
theorem sparesOf_bound {bs : List UInt8} {p : Nat} (h : (sparesOf bs p).1 = 0) : (sparesOf bs p).2.2 = 9 * (sparesOf bs p).2.1.length + 1 ∧ (sparesOf bs p).2.1.length ≤ 32 ∧ p + (sparesOf bs p).2.2 ≤ 8 * bs.length := by
  unfold sparesOf at h ⊢
  split
  · rename_i h1
    have := sparesF_bound h1
    exact ⟨rfl, by simp only; omega, by simp only; omega⟩
  · rename_i h1; rw [if_neg h1] at h; exact absurd h h1
end Go.Mine
namespace Go.Proofs.Ytboipjdgccbjmaa
open Go.RowKit Go.Mine

set_option maxRecDepth 100000 in
set_option maxHeartbeats 1000000 in
theorem rSpares_any (w : World) (v : Value) (bs : List UInt8) (hr : Rd w 1 v bs.length (byteCells bs)) (hl : bs.length ≤ 1000000000) (p : Nat) (hp : p ≤ 8 * bs.length) :
    Calls Try.prog 59 #[v, .int .i64 (p : Int)] w fun e w' => ∃ u, e = .returned (.tuple #[u, .int .i64 ((sparesOf bs p).2.2 : Int), .int .i64 (sparesOf bs p).1]) ∧ SpEnd w w' 5 (sparesOf bs p) u := by
  obtain ⟨i0, hi0, hz0, hz1, hz2⟩ := info_parts Try.infoB
  have hr' := hr
  obtain ⟨-, A, c, rfl, hc, -⟩ := hr'
  have hrd := fun W (hW : OnlyIn [] w W) x n (hx : x ≤ 9223372036854775807) => rRead_all W _ bs (hr.cells fun p u hp => hW.cell hp (by simp)) hl x n hx
  clear hr
  go_enter Try.func59, Try.ntmps59
  go_wp2_with fail
  go_loopw [7, 8] (fun u m wr => ∃ k : Nat, m = .int .i64 ((9 * k : Nat) : Int) ∧ SpAt w wr 5 bs p u k) (fun _ m _ => 8 * bs.length + 9 - (intOf m).toNat)
  case atStart => exact ⟨0, rfl, SpAt.start hp⟩
  case round =>
    obtain ⟨k, rfl, hS⟩ := hrel
    obtain ⟨B, d, rfl, hd⟩ := hS.val
    obtain ⟨N, hN⟩ : ∃ N, 9 * k = N := ⟨_, rfl⟩
    have hk32 := hS.k32
    have hNl : p + N ≤ 8 * bs.length := by rw [← hN]; exact hS.lt
    have h1 := hrd wr hS.on ((p : Int) + (N : Int)) 1 (by omega)
    rw [hN]
    by_cases hm : 8 * bs.length < p + N + 1
    · have hso := hS.fault (er := 5) (by decide) (by rw [hN, sparesF_more hm])
      have hre : readOf bs ((p : Int) + (N : Int)) 1 = (0, 5) := by rw [readOf, if_neg (by omega), if_pos (by omega)]
      rw [hre] at h1
      have HH := Lib.hid (And.intro hso hS)
      clear hso hS hrd hre
      go_wp2_with (go_at_call 58; refine h1.mono ?_; rintro e w1 ⟨rfl, ht1⟩)
      go_ret3
      obtain ⟨hso, hS⟩ := HH.out
      rw [hso]
      exact ⟨_, rfl, (hS.only ht1).nil⟩
    have hre : readOf bs ((p : Int) + (N : Int)) 1 = ((numAt bs (p + N) 1 : Int), 0) := by
      rw [← readOf_ok (bs := bs) (i := p + N) (n := 1) (by omega) (by omega)]; congr 1
    rw [hre] at h1
    clear hre
    by_cases h0 : numAt bs (p + N) 1 = 0
    · have hso := hS.done (by rw [hN, sparesF_end hm h0])
      rw [h0] at h1
      obtain ⟨ys, hso, hend⟩ := hso
      have hNk : ((9 * k + 1 : Nat) : Int) = (N : Int) + 1 := by omega
      have HH := Lib.hid (And.intro hNk (And.intro hso hend))
      clear hso hend hNk hS hrd hN
      go_wp2_with (go_at_call 58; refine h1.mono ?_; rintro e w1 ⟨rfl, ht1⟩)
      go_ret3
      obtain ⟨hNk, hso, hend⟩ := HH.out
      rw [hso, hNk]
      exact ⟨_, rfl, hend _ ht1⟩
    have hx1 : numAt bs (p + N) 1 < 2 := numAt_lt bs _ 1
    obtain ⟨x, hx⟩ : ∃ x, numAt bs (p + N) 1 = x := ⟨_, rfl⟩
    have h0' := h0
    rw [hx] at h0 hx1
    obtain rfl : x = 1 := by omega
    rw [hx] at h1
    by_cases hk : k = 32
    · have hso := hS.fault (er := 4) (by decide) (by rw [hN, hk, sparesF_long hm h0'])
      subst hk
      have HH := Lib.hid (And.intro hso hS)
      clear hso hS hrd hN hx
      go_wp2_with (go_at_call 58; refine h1.mono ?_; rintro e w1 ⟨rfl, ht1⟩)
      go_ret3
      obtain ⟨hso, hS⟩ := HH.out
      rw [hso]
      exact ⟨_, rfl, (hS.only ht1).nil⟩
    have hki : ¬ (k : Int) = 32 := by omega
    have h2 := fun W hW => hrd W hW ((p : Int) + (N : Int) + 1) 8 (by omega)
    by_cases h9 : 8 * bs.length < p + N + 9
    · have hso := hS.fault (er := 5) (by decide) (by rw [hN, show 32 - k = (32 - (k + 1)) + 1 by omega, sparesF_more9 hm h0' h9])
      have hre : readOf bs ((p : Int) + (N : Int) + 1) 8 = (0, 5) := by rw [readOf, if_neg (by omega), if_pos (by omega)]
      rw [hre] at h2
      have hon := hS.on
      have HH := Lib.hid (And.intro hso hS)
      have tok : True := trivial
      clear hso hS hrd hN hx hre
      go_wp2_with (first | (go_at_call 58; have _t := tok; refine h1.mono ?_; rintro e w1 ⟨rfl, ht1⟩; clear tok _t) | (go_at_call 58; refine (h2 _ (hon.trans ht1)).mono ?_; rintro e w2 ⟨rfl, ht2⟩))
      go_ret3
      obtain ⟨hso, hS⟩ := HH.out
      rw [hso]
      exact ⟨_, rfl, (hS.only (ht1.trans ht2)).nil⟩
    have hre : readOf bs ((p : Int) + (N : Int) + 1) 8 = ((numAt bs (p + N + 1) 8 : Int), 0) := by
      rw [← readOf_ok (bs := bs) (i := p + N + 1) (n := 8) (by omega) (by omega)]; congr 1
    rw [hre] at h2
    have hy8 : numAt bs (p + N + 1) 8 < 256 := numAt_lt bs _ 8
    obtain ⟨y, hy⟩ : ∃ y, numAt bs (p + N + 1) 8 = y := ⟨_, rfl⟩
    rw [hy] at h2 hy8
    have hon := hS.on
    have hwu : IntKind.u8.wrap (y : Int) = (y : Int) := by rw [IntKind.wrap_u8]; omega
    rw [← hN] at hm h0' h9 hy
    obtain ⟨ys, hsl, happ⟩ := hS.app (by omega) h0' h9 hy
    have hmeas : 8 * bs.length + 9 - (N + 9) < 8 * bs.length + 9 - N := by omega
    have hN9 : 9 * (k + 1) = N + 9 := by omega
    have HH := Lib.hid (And.intro @happ trivial)
    have HN := Lib.hid hN9
    have hbase := hS.on.size
    have tok : True := trivial
    clear happ hS hrd hx hre h0' h9 hm hy hN9 hN
    go_wp2_with (first | (go_at_call 58; have _t := tok; refine h1.mono ?_; rintro e w1 ⟨rfl, ht1⟩; clear tok _t) | (go_at_call 58; refine (h2 _ (hon.trans ht1)).mono ?_; rintro e w2 ⟨rfl, ht2⟩) | (at_builtin; refine wpList_append_sl rfl _ _ 22 rfl w.heap.size 5 i0 _ 1 1 Try.underlying22 hi0 hz0 hz1 hz2 rfl (by decide) (.slice B k d) k (byteCells ys) rfl ((hsl.only (ht1.trans ht2) (by simp)).alloc (.cells #[.int .u8 (y : Int)] 5)) (.slice (some ⟨w2.heap.size, 0, none⟩) 1 1) 1 [.int .u8 (y : Int)] rfl (Rd.lit w2 [.int .u8 (y : Int)] 5 1 rfl) (by simp [Value.oneCell']) (by simp only [maxLen]; omega) (by omega) (by have h1 := ht1.size; have h2 := ht2.size; simp at h1 h2 ⊢; omega) ?_; intro v5 w5 hs5 hg5 hat5; have HR := Lib.hid (HH.out.1 ((ht1.trans ht2).alloc _) hs5 hg5); clear hs5 hg5 hat5 hsl HH))
    go_roundw
    case rel => exact ⟨k + 1, by rw [HN.out]; push_cast; rfl, HR.out⟩
    case measure => simp [intOf]; exact hmeas
end Go.Proofs.Ytboipjdgccbjmaa
