/-
  Law 24: alike; outboxes that nobody made.
-/
import Derived.Test.YtcgbafdagckgcaaOutboxc
import Derived.Test.YtcgbafdagckgcaaOutboxd
import Derived.Test.YtcgbafdagckgcaaOutboxe
import Derived.Test.YtcgbafdagckgcaaOutboxf
import Derived.WalkLawsBesides
import Derived.WalkSpells
namespace Go.Proofs.Ytcgbafdagckgcaa
open Go.RowKit Go.Mine

set_option maxRecDepth 100000 in
theorem alike_any (w : World) (b r N came : Nat) (l : List Item) (b2 base : Nat) (v : Value) (ho : Ob w b r N came l) (hf : Rf w b2 base v N came l) :
    Calls Try.prog 28 #[.pointer (some ⟨b, 0, none⟩), .pointer (some ⟨b2, 0, none⟩)] w fun e w' => e = .returned (.bool true) ∧ OnlyIn [] w w' := by
  have hln := hf.len
  have hms := hf.most
  go_enter Try.func28, Try.ntmps28
  go_wp2_with fail
  refine (All_any w b r N came l ho).mono ?_
  rintro e w1 ⟨v1, rfl, hs1, ht1⟩
  have ho1 := ho.only ht1 (by simp) (by simp)
  have hf1 := hf.only ht1 (by simp) (by simp)
  clear ho hf
  obtain ⟨A, c, rfl, hc⟩ := hs1.val
  obtain ⟨A2, c2, rfl, hc2⟩ := hf1.sl.val
  have e0 := hf1.blk.cell (i := 0) rfl
  have e1 := hf1.blk.cell (i := 1) rfl
  have e2 := hf1.blk.cell (i := 2) rfl
  have r1 := Rd.of_sl hs1
  have r2 := Rd.of_sl hf1.sl
  have hsub : ((N - l.length : Nat) : Int) = (N : Int) - (l.length : Int) := by omega
  go_wp2_with fail
  go_quiet ((first | (go_at_call 25; exact Calls.quiet_of (SameItems_same _ _ _ l (r1.drewN _) (r2.drewN _) (by omega))) | (go_at_call 17; exact Calls.quiet_of (Len_any _ (ho1.drewN _))) | (go_at_call 30; exact Calls.quiet_of (Room_any _ (ho1.drewN _))) | (go_at_call 20; exact quiet_left (Ever_any _ (ho1.drewN _)))))
  go_wp2_with fail
  have hs2 := fun k => hs1.drewN k
  refine (OverItems_any _ _ _ _ _ (hs1.drewN _) (by omega)).mono ?_
  rintro e w2 ⟨rfl, ht2⟩
  go_wp2_with fail
  go_ret
  refine ⟨by simp, (ht1.drewN _).then ht2 (fun j hj => .inr ?_)⟩
  exact (hs1.own_lt j (by simpa using hj)).1

/-- An outbox that nobody made: nil, or all noughts. -/
def NoOb (w : World) (p : Value) : Prop := p = .pointer none ∨ ∃ b, p = .pointer (some ⟨b, 0, none⟩) ∧ Blk w b 49 [.slice none 0 0, .int .i64 0, .int .i64 0]

theorem NoOb.only {S : List Nat} {w w' : World} {p : Value} (h : NoOb w p) (ht : OnlyIn S w w') (hS : S = [] := by rfl) : NoOb w' p :=
  h.imp id fun ⟨b, h1, h2⟩ => ⟨b, h1, h2.only ht (by simp [hS])⟩

set_option maxRecDepth 100000 in
theorem none_yes (w : World) (p : Value) (h : NoOb w p) : Calls Try.prog 57 #[p] w fun e w' => e = .returned (.bool true) ∧ w = w' := by
  rcases h with rfl | ⟨b, rfl, hb⟩
  · go_enter Try.func57, Try.ntmps57
    go_wp2
    go_ret
    exact ⟨rfl, rfl⟩
  · have h0 := hb.cell (i := 0) rfl
    go_enter Try.func57, Try.ntmps57
    go_wp2
    go_ret
    exact ⟨rfl, rfl⟩

set_option maxRecDepth 100000 in
theorem noPush (w : World) (p : Value) (hN : NoOb w p) (i : Item) : Calls Try.prog 16 #[p, .agg #[.int .i64 i.f, .int .i64 i.g, .int .i64 i.t, .int .i64 i.y]] w fun e w' => e = .returned (.int .i64 1) ∧ OnlyIn [] w w' := by
  have hp : p = .pointer none ∨ ∃ b, p = .pointer (some ⟨b, 0, none⟩) := hN.imp id fun ⟨b, h, _⟩ => ⟨b, h⟩
  rcases hp with rfl | ⟨b, rfl⟩
  all_goals
    go_enter Try.func16, Try.ntmps16
    go_wp2_with fail
    refine (none_yes _ _ (hN.only (S := []) ((OnlyIn.refl _ _).alloc _))).mono ?_
    rintro e w' ⟨rfl, rfl⟩
    go_wp2_with fail
    go_ret
    exact ⟨rfl, by (repeat (first | (with_reducible assumption) | (with_reducible exact OnlyIn.refl _ _) | (with_reducible refine OnlyIn.setCell ?_ (by first | simp | (simp; omega)) _) | (with_reducible refine OnlyIn.drewN ?_ _) | (with_reducible refine OnlyIn.drew ?_) | (with_reducible refine OnlyIn.alloc ?_ _)))⟩

set_option maxRecDepth 100000 in
theorem noPop (w : World) (p : Value) (hN : NoOb w p) : Calls Try.prog 18 #[p] w fun e w' => e = .returned (.tuple #[.agg #[.int .i64 0, .int .i64 0, .int .i64 0, .int .i64 0], .int .i64 1]) ∧ OnlyIn [] w w' := by
  have hp : p = .pointer none ∨ ∃ b, p = .pointer (some ⟨b, 0, none⟩) := hN.imp id fun ⟨b, h, _⟩ => ⟨b, h⟩
  rcases hp with rfl | ⟨b, rfl⟩
  all_goals
    go_enter Try.func18, Try.ntmps18
    go_wp2_with fail
    refine (none_yes _ _ (hN.only (S := []) ((OnlyIn.refl _ _).alloc _))).mono ?_
    rintro e w' ⟨rfl, rfl⟩
    go_wp2_with fail
    refine bodyPost_ret (v := .tuple #[.agg #[.int .i64 0, .int .i64 0, .int .i64 0, .int .i64 0], .int .i64 1]) (by simp [results, Try.results18, go_sem]) rfl ⟨rfl, ?_⟩
    (repeat (first | (with_reducible assumption) | (with_reducible exact OnlyIn.refl _ _) | (with_reducible refine OnlyIn.setCell ?_ (by first | simp | (simp; omega)) _) | (with_reducible refine OnlyIn.drewN ?_ _) | (with_reducible refine OnlyIn.drew ?_) | (with_reducible refine OnlyIn.alloc ?_ _)))

set_option maxRecDepth 100000 in
theorem noAll (w : World) (p : Value) (hN : NoOb w p) : Calls Try.prog 29 #[p] w fun e w' => e = .returned (.slice none 0 0) ∧ w = w' := by
  have hp : p = .pointer none ∨ ∃ b, p = .pointer (some ⟨b, 0, none⟩) := hN.imp id fun ⟨b, h, _⟩ => ⟨b, h⟩
  rcases hp with rfl | ⟨b, rfl⟩
  all_goals
    go_enter Try.func29, Try.ntmps29
    go_wp2_with fail
    refine (none_yes _ _ hN).mono ?_
    rintro e w' ⟨rfl, rfl⟩
    go_wp2_with fail
    go_ret
    exact ⟨rfl, rfl⟩

set_option maxRecDepth 100000 in
theorem noClear (w : World) (p : Value) (hN : NoOb w p) : Calls Try.prog 24 #[p] w fun e w' => e = .returned (.slice none 0 0) ∧ w = w' := by
  have hp : p = .pointer none ∨ ∃ b, p = .pointer (some ⟨b, 0, none⟩) := hN.imp id fun ⟨b, h, _⟩ => ⟨b, h⟩
  rcases hp with rfl | ⟨b, rfl⟩
  all_goals
    go_enter Try.func24, Try.ntmps24
    go_wp2_with fail
    refine (noAll _ _ hN).mono ?_
    rintro e w' ⟨rfl, rfl⟩
    go_wp2_with fail
    refine (none_yes _ _ hN).mono ?_
    rintro e w' ⟨rfl, rfl⟩
    go_wp2_with fail
    go_ret
    exact ⟨rfl, rfl⟩

set_option maxRecDepth 100000 in
theorem noLen (w : World) (p : Value) (hN : NoOb w p) : Calls Try.prog 17 #[p] w fun e w' => e = .returned (.int .i64 0) ∧ w = w' := by
  have hp : p = .pointer none ∨ ∃ b, p = .pointer (some ⟨b, 0, none⟩) := hN.imp id fun ⟨b, h, _⟩ => ⟨b, h⟩
  rcases hp with rfl | ⟨b, rfl⟩
  all_goals
    go_enter Try.func17, Try.ntmps17
    go_wp2_with fail
    refine (none_yes _ _ hN).mono ?_
    rintro e w' ⟨rfl, rfl⟩
    go_wp2_with fail
    go_ret
    exact ⟨rfl, rfl⟩

set_option maxRecDepth 100000 in
theorem noRoom (w : World) (p : Value) (hN : NoOb w p) : Calls Try.prog 30 #[p] w fun e w' => e = .returned (.int .i64 0) ∧ w = w' := by
  have hp : p = .pointer none ∨ ∃ b, p = .pointer (some ⟨b, 0, none⟩) := hN.imp id fun ⟨b, h, _⟩ => ⟨b, h⟩
  rcases hp with rfl | ⟨b, rfl⟩
  all_goals
    go_enter Try.func30, Try.ntmps30
    go_wp2_with fail
    refine (none_yes _ _ hN).mono ?_
    rintro e w' ⟨rfl, rfl⟩
    go_wp2_with fail
    go_ret
    exact ⟨rfl, rfl⟩

set_option maxRecDepth 100000 in
theorem noEver (w : World) (p : Value) (hN : NoOb w p) : Calls Try.prog 20 #[p] w fun e w' => e = .returned (.int .i64 0) ∧ w = w' := by
  have hp : p = .pointer none ∨ ∃ b, p = .pointer (some ⟨b, 0, none⟩) := hN.imp id fun ⟨b, h, _⟩ => ⟨b, h⟩
  rcases hp with rfl | ⟨b, rfl⟩
  all_goals
    go_enter Try.func20, Try.ntmps20
    go_wp2_with fail
    refine (none_yes _ _ hN).mono ?_
    rintro e w' ⟨rfl, rfl⟩
    go_wp2_with fail
    go_ret
    exact ⟨rfl, rfl⟩

end Go.Proofs.Ytcgbafdagckgcaa
