/-
  Package outbox: what its functions do to a ring of items.
-/
import Derived.Test.YtcgbafdagckgcaaBase
import Derived.Test.YtcgbafdagckgcaaRows
import Derived.StillTailTactics
import Derived.Deep.RegionWith
import Derived.Deep.RegionHeld3
namespace Go.Proofs.Ytcgbafdagckgcaa
open Go.RowKit Go.Mine

structure Item where
  f : Int
  g : Int
  t : Int
  y : Int


def Item.cells (i : Item) : List Value := [.int .i64 i.f, .int .i64 i.g, .int .i64 i.t, .int .i64 i.y]
theorem Item.len (i : Item) : i.cells.length = 4 := rfl

/-- An outbox at b, its ring at r: room for N, 'came' were ever pushed, l waits. -/
structure Ob (w : World) (b r N came : Nat) (l : List Item) : Prop where
  pos : 0 < N
  le : N ≤ 1000
  len : l.length ≤ N
  ever : l.length ≤ came
  small : came ≤ 1000000000
  blk : Blk w b 49 [.slice (some ⟨r, 0, none⟩) N N, .int .i64 (came : Int), .int .i64 ((came - l.length : Nat) : Int)]
  ring : ∃ rs : List Item, rs.length = N ∧ Blk w r 30 (rs.flatMap Item.cells) ∧ ∀ j, j < l.length → rs[(came - l.length + j) % N]? = l[j]?

theorem Ob.ne_ {w : World} {b r N came : Nat} {l : List Item} (h : Ob w b r N came l) : b ≠ r := by
  obtain ⟨rs, _, hr, _⟩ := h.ring
  exact h.blk.ne_ hr (by decide)

theorem Ob.only {S : List Nat} {w w' : World} {b r N came : Nat} {l : List Item} (h : Ob w b r N came l) (ht : OnlyIn S w w') (hb : b ∉ S) (hr : r ∉ S) : Ob w' b r N came l := by
  obtain ⟨rs, h1, h2, h3⟩ := h.ring
  exact ⟨h.pos, h.le, h.len, h.ever, h.small, h.blk.only ht hb, rs, h1, h2.only ht hr, h3⟩

theorem Ob.drewN {w : World} {b r N came : Nat} {l : List Item} (h : Ob w b r N came l) (k : Nat) : Ob (w.drewN k) b r N came l := h.only (S := []) ((OnlyIn.refl _ _).drewN k) (by simp) (by simp)

theorem Ob.drew {w : World} {b r N came : Nat} {l : List Item} (h : Ob w b r N came l) : Ob w.drew b r N came l := h.only (S := []) ((OnlyIn.refl _ _).drew) (by simp) (by simp)

theorem none_no (w : World) {b r N came : Nat} {l : List Item} (h : Ob w b r N came l) :
    Calls Try.prog 57 #[.pointer (some ⟨b, 0, none⟩)] w fun e w' => e = .returned (.bool false) ∧ w = w' := by
  have h0 := h.blk.cell (i := 0) rfl
  have hp := h.pos
  have hl := h.le
  have hlen : ((N : Int) == 0) = false := by simp; omega
  clear h
  go_enter Try.func57, Try.ntmps57
  go_wp2
  go_ret
  exact ⟨rfl, rfl⟩

theorem place_any (w : World) {b r N came : Nat} {l : List Item} (h : Ob w b r N came l) (n : Nat) (hn : n ≤ 1000000000) :
    Calls Try.prog 58 #[.pointer (some ⟨b, 0, none⟩), .int .i64 n] w fun e w' => e = .returned (.pointer (some ⟨r, n % N * 4, none⟩)) ∧ ∃ k, w' = w.drewN k := by
  have h0 := h.blk.cell (i := 0) rfl
  have hp := h.pos
  have hl := h.le
  have hmod : n % N < N := Nat.mod_lt _ hp
  clear h
  go_enter Try.func58, Try.ntmps58
  go_wp2
  go_quiet (fail)
  go_wp2
  go_ret
  exact ⟨rfl, _, rfl⟩

theorem Len_any (w : World) {b r N came : Nat} {l : List Item} (h : Ob w b r N came l) :
    Calls Try.prog 17 #[.pointer (some ⟨b, 0, none⟩)] w fun e w' => e = .returned (.int .i64 l.length) ∧ ∃ k, w' = w.drewN k := by
  have h1 := h.blk.cell (i := 1) rfl
  have h2 := h.blk.cell (i := 2) rfl
  have he := h.ever
  have hs := h.small
  have hsub : ((came - l.length : Nat) : Int) = (came : Int) - l.length := by omega
  have HS := Lib.hid hsub
  clear hsub
  have hc1 : ((came - l.length : Nat) : Int) ≤ came := by omega
  go_enter Try.func17, Try.ntmps17
  go_wp2_with (go_at_call 57; refine (none_no _ h).mono ?_; rintro e w' ⟨rfl, rfl⟩)
  go_quiet (fail)
  go_wp2
  go_ret
  refine ⟨?_, _, rfl⟩
  show Ending.returned (.int .i64 ((came : Int) - ((came - l.length : Nat) : Int))) = _
  rw [HS.out]
  congr 2
  omega

theorem Room_any (w : World) {b r N came : Nat} {l : List Item} (h : Ob w b r N came l) :
    Calls Try.prog 30 #[.pointer (some ⟨b, 0, none⟩)] w fun e w' => e = .returned (.int .i64 ((N - l.length : Nat) : Int)) ∧ ∃ k, w' = w.drewN k := by
  have h0 := h.blk.cell (i := 0) rfl
  have hl := h.le
  have hln := h.len
  go_enter Try.func30, Try.ntmps30
  go_wp2_with (go_at_call 57; refine (none_no _ h).mono ?_; rintro e w' ⟨rfl, rfl⟩)
  go_quiet ((go_at_call 17; exact Calls.quiet_of (Len_any _ (h.drewN _))))
  go_wp2
  go_ret
  refine ⟨?_, _, rfl⟩
  show Ending.returned (.int .i64 ((N : Int) - (l.length : Int))) = _
  congr 2
  omega

theorem Ever_any (w : World) {b r N came : Nat} {l : List Item} (h : Ob w b r N came l) :
    Calls Try.prog 20 #[.pointer (some ⟨b, 0, none⟩)] w fun e w' => e = .returned (.int .i64 (came : Int)) ∧ w = w' := by
  have h1 := h.blk.cell (i := 1) rfl
  go_enter Try.func20, Try.ntmps20
  go_wp2_with (go_at_call 57; refine (none_no _ h).mono ?_; rintro e w' ⟨rfl, rfl⟩)
  go_ret
  exact ⟨rfl, rfl⟩

theorem Ob.alloc {w : World} {b r N came : Nat} {l : List Item} (h : Ob w b r N came l) (o : Obj) : Ob (w.alloc o) b r N came l := h.only (S := []) ((OnlyIn.refl _ _).alloc o) (by simp) (by simp)

theorem Ob.pushed {w : World} {b r N came : Nat} {l : List Item} (h : Ob w b r N came l) (hf : l.length < N) (hs : came < 1000000000) (i : Item) :
    Ob (((((w.setCell ⟨r, came % N * 4, none⟩ (.int .i64 i.f)).setCell ⟨r, came % N * 4 + 1, none⟩ (.int .i64 i.g)).setCell ⟨r, came % N * 4 + 2, none⟩ (.int .i64 i.t)).setCell ⟨r, came % N * 4 + 3, none⟩ (.int .i64 i.y)).setCell ⟨b, 1, none⟩ (.int .i64 ((came : Int) + 1)))
      b r N (came + 1) (l ++ [i]) := by
  obtain ⟨rs, hrl, hrb, hrg⟩ := h.ring
  have hm : came % N < rs.length := by rw [hrl]; exact Nat.mod_lt _ h.pos
  have hne := h.ne_
  have he := h.ever
  refine ⟨h.pos, h.le, by simp; omega, by simp; omega, by omega, ?_, rs.set (came % N) i, by simpa using hrl, ?_, ?_⟩
  · have := ((((h.blk.far (p := ⟨r, came % N * 4, none⟩) hne (.int .i64 i.f)).far (p := ⟨r, came % N * 4 + 1, none⟩) hne (.int .i64 i.g)).far (p := ⟨r, came % N * 4 + 2, none⟩) hne (.int .i64 i.t)).far (p := ⟨r, came % N * 4 + 3, none⟩) hne (.int .i64 i.y)).set 1 (.int .i64 ((came : Int) + 1))
    have e : came + 1 - (l ++ [i]).length = came - l.length := by simp
    rw [e]
    exact this
  · have := ((((hrb.set (came % N * 4) (.int .i64 i.f)).set (came % N * 4 + 1) (.int .i64 i.g)).set (came % N * 4 + 2) (.int .i64 i.t)).set (came % N * 4 + 3) (.int .i64 i.y)).far (p := ⟨b, 1, none⟩) (Ne.symm hne) (.int .i64 ((came : Int) + 1))
    rw [flat_set4 Item.len rs (came % N) hm i rfl] at this
    exact this
  · intro j hj
    have e : came + 1 - (l ++ [i]).length = came - l.length := by simp
    rw [e]
    simp only [List.length_append, List.length_cons, List.length_nil] at hj
    by_cases hjl : j < l.length
    · rw [List.getElem?_set_ne, hrg j hjl, List.getElem?_append_left hjl]
      exact (mod_ne_of_lt (by omega) (by omega)).symm
    · have hj' : j = l.length := by omega
      subst hj'
      have e2 : came - l.length + l.length = came := by omega
      rw [e2, List.getElem?_set_self hm]
      simp

theorem Push_full (w : World) {b r N came : Nat} {l : List Item} (h : Ob w b r N came l) (hf : l.length = N) (i : Item) :
    Calls Try.prog 16 #[.pointer (some ⟨b, 0, none⟩), .agg #[.int .i64 i.f, .int .i64 i.g, .int .i64 i.t, .int .i64 i.y]] w fun e w' => e = .returned (.int .i64 15) ∧ OnlyIn [] w w' := by
  have hz : ((N - l.length : Nat) : Int) = 0 := by omega
  have HZ := Lib.hid hz
  clear hz hf
  go_enter Try.func16, Try.ntmps16
  go_wp2_with fail
  refine (none_no _ (h.alloc _)).mono ?_
  rintro e w' ⟨rfl, rfl⟩
  go_wp2_with fail
  refine (Room_any _ (h.alloc _)).mono ?_
  rintro e w' ⟨rfl, k, rfl⟩
  rw [HZ.out]
  go_wp2_with fail
  go_ret
  exact ⟨rfl, ((OnlyIn.refl _ _).alloc _).drewN _⟩

theorem Push_room (w : World) {b r N came : Nat} {l : List Item} (h : Ob w b r N came l) (hf : l.length < N) (hs : came < 1000000000) (i : Item) :
    Calls Try.prog 16 #[.pointer (some ⟨b, 0, none⟩), .agg #[.int .i64 i.f, .int .i64 i.g, .int .i64 i.t, .int .i64 i.y]] w fun e w' => e = .returned (.int .i64 0) ∧ Ob w' b r N (came + 1) (l ++ [i]) ∧ OnlyIn [b, r] w w' := by
  have hzb : (((N - l.length : Nat) : Int) == 0) = false := by simp; omega
  go_enter Try.func16, Try.ntmps16
  go_wp2_with fail
  have hi := Blk.new w 30 i.cells
  have ht0 := (OnlyIn.refl [] w).alloc (.cells i.cells.toArray 30)
  obtain ⟨w0, hw0⟩ : ∃ w0, w.alloc (.cells i.cells.toArray 30) = w0 := ⟨_, rfl⟩
  have ho0 := h.alloc (.cells i.cells.toArray 30)
  rw [hw0] at hi ht0 ho0
  refine (none_no _ (h.alloc _)).mono ?_
  rintro e w' ⟨rfl, rfl⟩
  go_wp2_with fail
  refine (Room_any _ (h.alloc _)).mono ?_
  rintro e w1 ⟨rfl, hw1⟩
  have ht1 : OnlyIn [] w0 w1 := OnlyIn.of_draws (by rw [← hw0]; exact hw1)
  have ho1 := ho0.only ht1 (by simp) (by simp)
  have hi1 := hi.only ht1 (by simp)
  have ht := ht0.trans ht1
  clear hw1 hw0 ht1 ho0 hi ht0
  have hcell := ho1.blk.cell (i := 1) rfl
  have hi0 : w1.cell? ⟨w.heap.size, 0, none⟩ = _ := hi1.cell (i := 0) rfl
  have hi2 := hi1.cell (i := 1) rfl
  have hi3 := hi1.cell (i := 2) rfl
  have hi4 := hi1.cell (i := 3) rfl
  obtain ⟨rs, hrl, hrb, hrg⟩ := ho1.ring
  have hm : came % N < rs.length := by rw [hrl]; exact Nat.mod_lt _ h.pos
  have hx : ∀ j, j < 4 → (rs.flatMap Item.cells)[came % N * 4 + j]? = (rs[came % N].cells)[j]? := fun j hj => by
    rw [flat_get Item.len rs _ j hj, List.getElem?_eq_getElem hm]
    rfl
  have q0 : w1.cell? ⟨r, came % N * 4, none⟩ = _ := hrb.cell (hx 0 (by omega))
  have q1 := hrb.cell (hx 1 (by omega))
  have q2 := hrb.cell (hx 2 (by omega))
  have q3 := hrb.cell (hx 3 (by omega))
  have f0 := hrb.free (came % N * 4)
  have f1 := hrb.free (came % N * 4 + 1)
  have f2 := hrb.free (came % N * 4 + 2)
  have f3 := hrb.free (came % N * 4 + 3)
  clear hx
  have HR := Lib.hid hrl
  clear hrl
  have hne := ho1.ne_
  have hfb := ho1.blk.free 1
  go_wp2_with fail
  go_region_with ((go_at_call 58; refine (place_any _ ho1.drew _ (by omega)).mono ?_; rintro e w' ⟨rfl, k1, rfl⟩))
  all_goals
    go_wp2
    go_ret
    exact ⟨rfl, Ob.pushed (ho1.drewN _) hf hs i, ((((((ht.mono (by simp)).drewN _).setCell (.inl (by simp)) _).setCell (.inl (by simp)) _).setCell (.inl (by simp)) _).setCell (.inl (by simp)) _).setCell (.inl (by simp)) _⟩

end Go.Proofs.Ytcgbafdagckgcaa
