/-
  Package queue: a ring of bytes; what is asked of it.
-/
import Derived.Test.YtcgbafdagckgcaaBitsSpec
import Derived.Test.YtcgbafdagckgcaaRows
import Derived.StillTailTactics
import Derived.Deep.RegionWith
namespace Go.Proofs.Ytcgbafdagckgcaa
open Go.RowKit Go.Mine

/-- A queue at b, its ring at r: room for N, xs came and was not read but for p bits of the first one. -/
structure Qu (w : World) (b r N f : Nat) (xs : List UInt8) (p came gone : Nat) (over : Bool) : Prop where
  pos : 0 < N
  le : N ≤ 1048576
  len : xs.length ≤ N
  fst : f < N
  pl : p < 8
  pl2 : p ≤ 8 * xs.length
  small : came ≤ 1000000000
  small2 : gone ≤ 10000000000
  blk : Blk w b 84 [.int .i64 (N : Int), .int .i64 (xs.length : Int), .slice (some ⟨r, 0, none⟩) N N, .int .i64 (f : Int), .int .i64 (p : Int), .bool over, .int .i64 (came : Int), .int .i64 (gone : Int)]
  ring : ∃ rs : List UInt8, rs.length = N ∧ Blk w r 5 (byteCells rs) ∧ ∀ j, j < xs.length → rs[(f + j) % N]? = xs[j]?

section
variable {w w' : World} {b r N f p came gone : Nat} {xs : List UInt8} {over : Bool} {S : List Nat}
theorem Qu.ne_ (h : Qu w b r N f xs p came gone over) : b ≠ r := by
  obtain ⟨rs, _, hr, _⟩ := h.ring
  exact h.blk.ne_ hr (by decide)
theorem Qu.lt (h : Qu w b r N f xs p came gone over) : b < w.heap.size ∧ r < w.heap.size := by
  obtain ⟨rs, _, hr, _⟩ := h.ring
  exact ⟨h.blk.lt, hr.lt⟩
theorem Qu.only (h : Qu w b r N f xs p came gone over) (ht : OnlyIn S w w') (hb : b ∉ S) (hr : r ∉ S) : Qu w' b r N f xs p came gone over := by
  obtain ⟨rs, h1, h2, h3⟩ := h.ring
  exact ⟨h.pos, h.le, h.len, h.fst, h.pl, h.pl2, h.small, h.small2, h.blk.only ht hb, rs, h1, h2.only ht hr, h3⟩
set_option maxRecDepth 100000 in
theorem Qu.drewN (h : Qu w b r N f xs p came gone over) (k : Nat) : Qu (w.drewN k) b r N f xs p came gone over := h.only (S := []) ((OnlyIn.refl _ _).drewN k) (by simp) (by simp)
set_option maxRecDepth 100000 in
theorem Qu.drew (h : Qu w b r N f xs p came gone over) : Qu w.drew b r N f xs p came gone over := h.only (S := []) ((OnlyIn.refl _ _).drew) (by simp) (by simp)
end

set_option maxRecDepth 100000 in
theorem qnone_no (w : World) (b N : Nat) {cs : List Value} (h0 : w.cell? ⟨b, 0, none⟩ = some (.int .i64 (N : Int))) (hp : 0 < N) (hl : N ≤ 1048576) :
    Calls Try.prog 61 #[.pointer (some ⟨b, 0, none⟩)] w fun e w' => e = .returned (.bool false) ∧ w = w' := by
  have hlen : ((N : Int) == 0) = false := by simp; omega
  go_enter Try.func61, Try.ntmps61
  go_wp2
  go_ret
  exact ⟨rfl, rfl⟩

set_option maxRecDepth 100000 in
theorem qfree_any (w : World) (a c : Int) (h0 : 0 ≤ a) (h1 : a ≤ 1048576) (h2 : 0 ≤ c) (h3 : c ≤ 1048576) :
    Calls Try.prog 62 #[.agg #[.int .i64 a, .int .i64 c]] w fun e w' => e = .returned (.int .i64 (a - c)) ∧ OnlyIn [] w w' := by
  go_enter Try.func62, Try.ntmps62
  go_wp2
  go_ret
  exact ⟨rfl, (OnlyIn.refl _ _).alloc _⟩

section
variable (w : World) {b r N f p came gone : Nat} {xs : List UInt8} {over : Bool} (h : Qu w b r N f xs p came gone over)
include h
set_option maxRecDepth 100000 in
theorem qLeft_any : Calls Try.prog 36 #[.pointer (some ⟨b, 0, none⟩)] w fun e w' => e = .returned (.int .i64 (8 * (xs.length : Int) - (p : Int))) ∧ ∃ k, w' = w.drewN k := by
  have c0 := h.blk.cell (i := 0) rfl
  have c1 := h.blk.cell (i := 1) rfl
  have c4 := h.blk.cell (i := 4) rfl
  obtain ⟨g1, g2, g3, g4, g5, g6, g7, g8⟩ := And.intro h.pos (And.intro h.le (And.intro h.len (And.intro h.fst (And.intro h.pl (And.intro h.pl2 (And.intro h.small h.small2))))))
  clear h
  go_enter Try.func36, Try.ntmps36
  go_wp2_with (go_at_call 61; refine (qnone_no _ b N (cs := []) c0 g1 g2).mono ?_; rintro e w' ⟨rfl, rfl⟩)
  go_quiet (fail)
  go_wp2
  go_ret
  exact ⟨rfl, _, rfl⟩

set_option maxRecDepth 100000 in
theorem qFree_any : Calls Try.prog 38 #[.pointer (some ⟨b, 0, none⟩)] w fun e w' => e = .returned (.int .i64 ((N : Int) - (xs.length : Int))) ∧ OnlyIn [] w w' := by
  have c0 := h.blk.cell (i := 0) rfl
  have c1 := h.blk.cell (i := 1) rfl
  obtain ⟨g1, g2, g3, g4, g5, g6, g7, g8⟩ := And.intro h.pos (And.intro h.le (And.intro h.len (And.intro h.fst (And.intro h.pl (And.intro h.pl2 (And.intro h.small h.small2))))))
  clear h
  go_enter Try.func38, Try.ntmps38
  go_wp2_with (first | (go_at_call 61; refine (qnone_no _ b N (cs := []) c0 g1 g2).mono ?_; rintro e w' ⟨rfl, rfl⟩) | (go_at_call 62; refine (qfree_any _ _ _ (by omega) (by omega) (by omega) (by omega)).mono ?_; rintro e w' ⟨rfl, ht⟩))
  go_ret
  exact ⟨rfl, ht⟩

set_option maxRecDepth 100000 in
theorem qGone_any : Calls Try.prog 42 #[.pointer (some ⟨b, 0, none⟩)] w fun e w' => e = .returned (.int .i64 (gone : Int)) ∧ w = w' := by
  have c0 := h.blk.cell (i := 0) rfl
  have c1 := h.blk.cell (i := 7) rfl
  obtain ⟨g1, g2⟩ := And.intro h.pos h.le
  clear h
  go_enter Try.func42, Try.ntmps42
  go_wp2_with (go_at_call 61; refine (qnone_no _ b N (cs := []) c0 g1 g2).mono ?_; rintro e w' ⟨rfl, rfl⟩)
  go_ret
  exact ⟨rfl, rfl⟩

set_option maxRecDepth 100000 in
theorem qCame_any : Calls Try.prog 43 #[.pointer (some ⟨b, 0, none⟩)] w fun e w' => e = .returned (.int .i64 (came : Int)) ∧ w = w' := by
  have c0 := h.blk.cell (i := 0) rfl
  have c1 := h.blk.cell (i := 6) rfl
  obtain ⟨g1, g2⟩ := And.intro h.pos h.le
  clear h
  go_enter Try.func43, Try.ntmps43
  go_wp2_with (go_at_call 61; refine (qnone_no _ b N (cs := []) c0 g1 g2).mono ?_; rintro e w' ⟨rfl, rfl⟩)
  go_ret
  exact ⟨rfl, rfl⟩

set_option maxRecDepth 100000 in
theorem qEnded_any : Calls Try.prog 56 #[.pointer (some ⟨b, 0, none⟩)] w fun e w' => e = .returned (.bool over) ∧ w = w' := by
  have c0 := h.blk.cell (i := 0) rfl
  have c1 := h.blk.cell (i := 5) rfl
  obtain ⟨g1, g2⟩ := And.intro h.pos h.le
  clear h
  go_enter Try.func56, Try.ntmps56
  go_wp2_with (go_at_call 61; refine (qnone_no _ b N (cs := []) c0 g1 g2).mono ?_; rintro e w' ⟨rfl, rfl⟩)
  go_ret
  exact ⟨rfl, rfl⟩
end

set_option maxRecDepth 100000 in
theorem qEnd_over (w : World) {b r N f p came gone : Nat} {xs : List UInt8} (h : Qu w b r N f xs p came gone true) : Calls Try.prog 44 #[.pointer (some ⟨b, 0, none⟩)] w fun e w' => e = .returned (.int .i64 20) ∧ w = w' := by
  have c0 := h.blk.cell (i := 0) rfl
  have c1 := h.blk.cell (i := 5) rfl
  obtain ⟨g1, g2⟩ := And.intro h.pos h.le
  clear h
  go_enter Try.func44, Try.ntmps44
  go_wp2_with (go_at_call 61; refine (qnone_no _ b N (cs := []) c0 g1 g2).mono ?_; rintro e w' ⟨rfl, rfl⟩)
  go_ret
  exact ⟨rfl, rfl⟩
set_option maxRecDepth 100000 in
theorem qEnd_ok (w : World) {b r N f p came gone : Nat} {xs : List UInt8} (h : Qu w b r N f xs p came gone false) : Calls Try.prog 44 #[.pointer (some ⟨b, 0, none⟩)] w fun e w' => e = .returned (.int .i64 0) ∧ Qu w' b r N f xs p came gone true ∧ OnlyIn [b] w w' := by
  have c0 := h.blk.cell (i := 0) rfl
  have c1 := h.blk.cell (i := 5) rfl
  have f1 := h.blk.free 5
  obtain ⟨g1, g2⟩ := And.intro h.pos h.le
  have H := Lib.hid h
  clear h
  go_enter Try.func44, Try.ntmps44
  go_wp2_with (go_at_call 61; refine (qnone_no _ b N (cs := []) c0 g1 g2).mono ?_; rintro e w' ⟨rfl, rfl⟩)
  go_ret
  obtain ⟨rs, h1, h2, h3⟩ := H.out.ring
  have hn := H.out.ne_
  exact ⟨rfl, ⟨H.out.pos, H.out.le, H.out.len, H.out.fst, H.out.pl, H.out.pl2, H.out.small, H.out.small2, H.out.blk.set 5 _, rs, h1, h2.far (by simpa using hn.symm) _, h3⟩, (OnlyIn.refl _ _).setCell (.inl (by simp)) _⟩

set_option maxRecDepth 100000 in
theorem qNew_bad (w : World) (x : Int) (h : x < 1 ∨ 1048576 < x) : Calls Try.prog 34 #[.int .i64 x] w fun e w' => e = .returned (.tuple #[.pointer none, .int .i64 3]) ∧ w = w' := by
  by_cases h1 : x < 1
  · go_enter Try.func34, Try.ntmps34
    go_wp2
    go_ret2
    exact ⟨rfl, rfl⟩
  · have h2 : 1048576 < x := by omega
    go_enter Try.func34, Try.ntmps34
    go_wp2
    go_ret2
    exact ⟨rfl, rfl⟩

theorem Try.infoU8 : (Try.prog.info? 5).map (fun i => (i.zero, i.size, i.bytes)) = some (some (.int .u8 0), 1, 1) := by kernel_rfl

set_option maxRecDepth 100000 in
theorem qNew_ok (w : World) (N : Nat) (h1 : 1 ≤ N) (h2 : N ≤ 1048576) : Calls Try.prog 34 #[.int .i64 (N : Int)] w fun e w' => e = .returned (.tuple #[.pointer (some ⟨w.heap.size + 1, 0, none⟩), .int .i64 0]) ∧
    Qu w' (w.heap.size + 1) w.heap.size N 0 [] 0 0 0 false ∧ OnlyIn [] w w' := by
  obtain ⟨i0, hi0, hz0, hz1, hz2⟩ := info_parts Try.infoU8
  have hmk := run_make_n (P := Try.prog) 54 5 i0 (.int .u8 0) Try.underlying54 hi0 hz0 .i64 .i64 N (by rw [hz2]; omega) (by omega)
  have g1 : ¬ ((N : Int) < 1) := by omega
  have g2 : ¬ ((1048576 : Int) < (N : Int)) := by omega
  have hmf : madeCells (Value.int .u8 0).cells (N * i0.size) = (byteCells (List.replicate N 0)).toArray := by
    rw [hz1, Nat.mul_one]
    apply Array.ext'
    apply List.ext_getElem?
    intro j
    simp only [madeCells, byteCells, Value.cells, List.map_replicate]
    rw [List.getElem?_replicate]
    by_cases hj : j < N
    · simp [hj, Nat.mod_one]
    · simp [hj]
  rw [hmf] at hmk
  clear hmf
  go_enter Try.func34, Try.ntmps34
  go_wp2
  go_ret2
  have hr := (Blk.new w 5 (byteCells (List.replicate N 0))).alloc (.cells #[.int .i64 (N : Int), .int .i64 0, .slice (some ⟨w.heap.size, 0, none⟩) N N, .int .i64 0, .int .i64 0, .bool false, .int .i64 0, .int .i64 0] 84)
  have hb := Blk.new (w.alloc (.cells (byteCells (List.replicate N 0)).toArray 5)) 84 [.int .i64 (N : Int), .int .i64 0, .slice (some ⟨w.heap.size, 0, none⟩) N N, .int .i64 0, .int .i64 0, .bool false, .int .i64 0, .int .i64 0]
  rw [World.size_alloc] at hb
  exact ⟨rfl, ⟨by omega, by omega, by simp, by omega, by omega, by omega, by omega, by omega, hb, _, by simp, hr, by simp⟩, ((OnlyIn.refl _ _).alloc _).alloc _⟩
end Go.Proofs.Ytcgbafdagckgcaa
