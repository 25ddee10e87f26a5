/-
  Law 23: pools that nobody made; PoolNone: the walk.
-/
import Derived.Test.YtmbnmhcfafgnaaaKnown23
import Derived.Test.YtmbnmhcfafgnaaaOpen23
namespace Go.Proofs.Ytmbnmhcfafgnaaa
open Go.RowKit Go.Mine

/-- A pool that nobody made. -/
def NoPool (w : World) (p : Value) : Prop := p = .pointer none ∨ ∃ b, p = .pointer (some ⟨b, 0, none⟩) ∧ w.cell? ⟨b, 3, none⟩ = some (.int .i64 0)
set_option maxRecDepth 100000 in
theorem no_none (w : World) (p : Value) (h : NoPool w p) : Calls Try.prog 55 #[p] w fun e w' => e = .returned (.bool true) ∧ w = w' := by
  rcases h with rfl | ⟨b, rfl, h⟩
  · exact pl_none_nil w
  · exact pl_none_zero w b h
set_option maxRecDepth 100000 in
theorem noAcquire (w : World) (p : Value) (hN : NoPool w p) (o : Int) : Calls Try.prog 43 #[p, .int .i64 o] w fun e w' => e = .returned (.tuple #[.int .i64 0, .int .i64 1]) ∧ w = w' := by
  have hn := no_none w p hN
  go_enter Try.func43, Try.ntmps43
  go_wp2_with fail
  refine hn.mono ?_
  rintro e w' ⟨rfl, rfl⟩
  go_wp2_with fail
  go_ret2
  exact ⟨rfl, rfl⟩
set_option maxRecDepth 100000 in
theorem noReclaim (w : World) (p : Value) (hN : NoPool w p) (o : Int) : Calls Try.prog 45 #[p, .int .i64 o] w fun e w' => e = .returned (.tuple #[.int .i64 0, .int .i64 1]) ∧ w = w' := by
  have hn := no_none w p hN
  go_enter Try.func45, Try.ntmps45
  go_wp2_with fail
  refine hn.mono ?_
  rintro e w' ⟨rfl, rfl⟩
  go_wp2_with fail
  go_ret2
  exact ⟨rfl, rfl⟩
set_option maxRecDepth 100000 in
theorem noOf (w : World) (p : Value) (hN : NoPool w p) (n o : Int) : Calls Try.prog 53 #[p, .int .i64 n, .int .i64 o] w fun e w' => e = .returned (.tuple #[.pointer none, .int .i64 1]) ∧ w = w' := by
  have hn := no_none w p hN
  go_enter Try.func53, Try.ntmps53
  go_wp2_with fail
  refine hn.mono ?_
  rintro e w' ⟨rfl, rfl⟩
  go_wp2_with fail
  go_ret2
  exact ⟨rfl, rfl⟩
set_option maxRecDepth 100000 in
theorem noMemory (w : World) (p : Value) (hN : NoPool w p) (n o : Int) : Calls Try.prog 49 #[p, .int .i64 n, .int .i64 o] w fun e w' => e = .returned (.tuple #[.slice none 0 0, .int .i64 1]) ∧ w = w' := by
  have hn := noOf w p hN n o
  go_enter Try.func49, Try.ntmps49
  go_wp2_with fail
  refine hn.mono ?_
  rintro e w' ⟨rfl, rfl⟩
  go_wp2_with fail
  go_ret2
  exact ⟨rfl, rfl⟩
set_option maxRecDepth 100000 in
theorem noLook (w : World) (p : Value) (hN : NoPool w p) (n o : Int) : Calls Try.prog 40 #[p, .int .i64 n, .int .i64 o] w fun e w' => e = .returned (.tuple #[.slice none 0 0, .int .i64 1]) ∧ w = w' := by
  have hn := no_none w p hN
  go_enter Try.func40, Try.ntmps40
  go_wp2_with fail
  refine hn.mono ?_
  rintro e w' ⟨rfl, rfl⟩
  go_wp2_with fail
  go_ret2
  exact ⟨rfl, rfl⟩
set_option maxRecDepth 100000 in
theorem noRetain (w : World) (p : Value) (hN : NoPool w p) (n o : Int) : Calls Try.prog 44 #[p, .int .i64 n, .int .i64 o] w fun e w' => e = .returned (.int .i64 1) ∧ w = w' := by
  have hn := noOf w p hN n o
  go_enter Try.func44, Try.ntmps44
  go_wp2_with fail
  refine hn.mono ?_
  rintro e w' ⟨rfl, rfl⟩
  go_wp2_with fail
  go_ret
  exact ⟨rfl, rfl⟩
set_option maxRecDepth 100000 in
theorem noRelease (w : World) (p : Value) (hN : NoPool w p) (n o : Int) : Calls Try.prog 32 #[p, .int .i64 n, .int .i64 o] w fun e w' => e = .returned (.int .i64 1) ∧ w = w' := by
  have hn := noOf w p hN n o
  go_enter Try.func32, Try.ntmps32
  go_wp2_with fail
  refine hn.mono ?_
  rintro e w' ⟨rfl, rfl⟩
  go_wp2_with fail
  go_ret
  exact ⟨rfl, rfl⟩
set_option maxRecDepth 100000 in
theorem noOwner (w : World) (p : Value) (hN : NoPool w p) (n : Int) : Calls Try.prog 34 #[p, .int .i64 n] w fun e w' => e = .returned (.int .i64 0) ∧ w = w' := by
  have hn := no_none w p hN
  go_enter Try.func34, Try.ntmps34
  go_wp2_with fail
  refine hn.mono ?_
  rintro e w' ⟨rfl, rfl⟩
  go_wp2_with fail
  go_ret
  exact ⟨rfl, rfl⟩
set_option maxRecDepth 100000 in
theorem noHandles (w : World) (p : Value) (hN : NoPool w p) (n : Int) : Calls Try.prog 33 #[p, .int .i64 n] w fun e w' => e = .returned (.int .i64 0) ∧ w = w' := by
  have hn := no_none w p hN
  go_enter Try.func33, Try.ntmps33
  go_wp2_with fail
  refine hn.mono ?_
  rintro e w' ⟨rfl, rfl⟩
  go_wp2_with fail
  go_ret
  exact ⟨rfl, rfl⟩
set_option maxRecDepth 100000 in
theorem noHeld (w : World) (p : Value) (hN : NoPool w p) (n : Int) : Calls Try.prog 36 #[p, .int .i64 n] w fun e w' => e = .returned (.int .i64 0) ∧ w = w' := by
  have hn := no_none w p hN
  go_enter Try.func36, Try.ntmps36
  go_wp2_with fail
  refine hn.mono ?_
  rintro e w' ⟨rfl, rfl⟩
  go_wp2_with fail
  go_ret
  exact ⟨rfl, rfl⟩
set_option maxRecDepth 100000 in
theorem noFree (w : World) (p : Value) (hN : NoPool w p) : Calls Try.prog 38 #[p] w fun e w' => e = .returned (.int .i64 0) ∧ w = w' := by
  have hn := no_none w p hN
  go_enter Try.func38, Try.ntmps38
  go_wp2_with fail
  refine hn.mono ?_
  rintro e w' ⟨rfl, rfl⟩
  go_wp2_with fail
  go_ret
  exact ⟨rfl, rfl⟩
theorem zeroPool (w : World) : (zeroValue 72).run Try.prog w = .ok (.agg #[.slice none 0 0, .slice none 0 0, .map none, .int .i64 0]) w := by kernel_rfl

set_option maxRecDepth 100000 in
set_option maxHeartbeats 4000000 in
theorem PoolNone_walk {w : World} (a : Act23) (ha : a.ok) : Calls Try.prog 11 #[a.val] w fun e w' => e = .returned (.bool true) ∧ OnlyIn [] w w' := by
  obtain ⟨ak, af, ao, an⟩ := a
  simp only [Act23.val]
  have hz := zeroPool
  clear ha
  go_enter Try.func11, Try.ntmps11
  go_wp2_with fail
  have b0 := Blk.new w 60 [.int .i64 ak, .int .i64 af, .int .i64 ao, .int .i64 an]
  have b1 := Blk.new (w.alloc (.cells [.int .i64 ak, .int .i64 af, .int .i64 ao, .int .i64 an].toArray 60)) 72 [.slice none 0 0, .slice none 0 0, .map none, .int .i64 0]
  have b2 := Blk.new ((w.alloc (.cells [.int .i64 ak, .int .i64 af, .int .i64 ao, .int .i64 an].toArray 60)).alloc (.cells [.slice none 0 0, .slice none 0 0, .map none, .int .i64 0].toArray 72)) 45 [.pointer none, .pointer (some ⟨w.heap.size + 1, 0, none⟩)]
  simp only [World.size_alloc] at b1 b2
  go_loopw [4] (fun j wr => ∃ k : Nat, k ≤ 2 ∧ j = .int .i64 (k : Int) ∧ OnlyIn [] w wr ∧ Blk wr w.heap.size 60 [.int .i64 ak, .int .i64 af, .int .i64 ao, .int .i64 an] ∧ Blk wr (w.heap.size + 1) 72 [.slice none 0 0, .slice none 0 0, .map none, .int .i64 0] ∧ Blk wr (w.heap.size + 1 + 1) 45 [.pointer none, .pointer (some ⟨w.heap.size + 1, 0, none⟩)]) (fun j _ => 2 - (RowKit.intOf j).toNat)
  case atStart => exact ⟨0, by omega, rfl, by (repeat (first | (with_reducible assumption) | (with_reducible exact OnlyIn.refl _ _) | (with_reducible refine OnlyIn.setCell ?_ (by first | simp | (simp; omega)) _) | (with_reducible refine OnlyIn.drewN ?_ _) | (with_reducible refine OnlyIn.drew ?_) | (with_reducible refine OnlyIn.alloc ?_ _))), (b0.alloc _).alloc _, b1.alloc _, b2⟩
  case round =>
    clear b0 b1 b2
    obtain ⟨k, hk, rfl, ho, b0, b1, b2⟩ := hrel
    have x1 := b0.cell (i := 1) rfl
    have x2 := b0.cell (i := 2) rfl
    have x3 := b0.cell (i := 3) rfl
    have y0 := b2.cell (i := 0) rfl
    have y1 := b2.cell (i := 1) rfl
    have HB := Lib.hid (And.intro ho (And.intro b0 (And.intro b1 b2)))
    by_cases hk2 : k = 2
    · subst hk2
      clear b0 b1 b2
      have haw := awake23 w wr ho
      clear ho
      go_wp2_with fail
      refine haw.mono ?_
      rintro e w1 ⟨rfl, h1⟩
      have H1 := Lib.hid h1
      clear h1 haw
      go_wp2_with fail
      go_ret
      exact ⟨rfl, H1.out⟩
    · obtain ⟨p, hp, hN⟩ : ∃ p, wr.cell? ⟨w.heap.size + 1 + 1, k, none⟩ = some p ∧ ∀ m, NoPool (wr.drewN m) p := by
        rcases (by omega : k = 0 ∨ k = 1) with rfl | rfl
        · exact ⟨_, y0, fun m => .inl rfl⟩
        · exact ⟨_, y1, fun m => .inr ⟨_, rfl, b1.cell (i := 3) rfl⟩⟩
      have hlt : k < 2 := by omega
      have hN0 : NoPool wr p := hN 0
      have e1 := noAcquire wr p hN0 ao
      have e2 := noReclaim wr p hN0 ao
      have e3 := noMemory wr p hN0 af ao
      have e4 := noLook wr p hN0 af an
      have e5 := noRetain wr p hN0 af ao
      have e6 := noRelease wr p hN0 af ao
      have d1 : ∀ m, _ := fun m => noOwner (wr.drewN m) p (hN m) af
      have d2 : ∀ m, _ := fun m => noHandles (wr.drewN m) p (hN m) af
      have d3 : ∀ m, _ := fun m => noHeld (wr.drewN m) p (hN m) ao
      have d4 : ∀ m, _ := fun m => noFree (wr.drewN m) p (hN m)
      clear b0 b1 b2 ho hN hN0 y0 y1
      go_wp2_with (first | (go_at_call 43; refine e1.mono ?_; rintro e w' ⟨rfl, rfl⟩) | (go_at_call 45; refine e2.mono ?_; rintro e w' ⟨rfl, rfl⟩) | (go_at_call 49; refine e3.mono ?_; rintro e w' ⟨rfl, rfl⟩) | (go_at_call 40; refine e4.mono ?_; rintro e w' ⟨rfl, rfl⟩) | (go_at_call 44; refine e5.mono ?_; rintro e w' ⟨rfl, rfl⟩) | (go_at_call 32; refine e6.mono ?_; rintro e w' ⟨rfl, rfl⟩))
      go_quiet (first | (refine quiet_left (d1 _)) | (refine quiet_left (d2 _)) | (refine quiet_left (d3 _)) | (refine quiet_left (d4 _)))
      all_goals
        go_wp2_with fail
        go_roundw
        case measure => simp [RowKit.intOf]; omega
        case rel =>
          obtain ⟨ho, b0, b1, b2⟩ := HB.out
          exact ⟨k + 1, by omega, by go_num, by (repeat (first | (with_reducible assumption) | (with_reducible exact OnlyIn.refl _ _) | (with_reducible refine OnlyIn.setCell ?_ (by first | simp | (simp; omega)) _) | (with_reducible refine OnlyIn.drewN ?_ _) | (with_reducible refine OnlyIn.drew ?_) | (with_reducible refine OnlyIn.alloc ?_ _))), b0.drewN _, b1.drewN _, b2.drewN _⟩
end Go.Proofs.Ytmbnmhcfafgnaaa
