/-
  The reference's queue: all that ever came is kept.
-/
import Derived.Test.YtcgbafdagckgcaaBitsSpec
import Derived.Test.YtcgbafdagckgcaaRows
import Derived.Test.YtcgbafdagckgcaaKitBytes
import Derived.StillTailTactics
import Derived.Deep.RegionLaw
namespace Go.Proofs.Ytcgbafdagckgcaa
open Go.RowKit Go.Mine

/-- The reference's queue at b: room for N, all that came, how many bits were read. -/
structure Rq (w : World) (b base : Nat) (v : Value) (N : Nat) (all : List UInt8) (read : Nat) (over : Bool) : Prop where
  blk : Blk w b 101 [.int .i64 (N : Int), v, .int .i64 (read : Int), .bool over]
  sl : Sl w base 5 1 v all.length (byteCells all)
  most : N ≤ 1048576
  small : all.length ≤ 1000000
  rd : read ≤ 8 * all.length
  room : all.length - read / 8 ≤ N

section
variable {w w' : World} {b base N read : Nat} {v : Value} {all : List UInt8} {over : Bool} {S : List Nat}
theorem Rq.only (h : Rq w b base v N all read over) (ht : OnlyIn S w w') (hb : b ∉ S) (hs : ∀ g, v.ownBlock = some g → g ∉ S) : Rq w' b base v N all read over :=
  ⟨h.blk.only ht hb, h.sl.only ht hs, h.most, h.small, h.rd, h.room⟩
theorem Rq.drewN (h : Rq w b base v N all read over) (k : Nat) : Rq (w.drewN k) b base v N all read over := ⟨h.blk.drewN k, h.sl.drewN k, h.most, h.small, h.rd, h.room⟩
end

set_option maxRecDepth 100000 in
theorem rNew_bad (w : World) (x : Int) (h : x < 1 ∨ 1048576 < x) : Calls Try.prog 48 #[.int .i64 x] w fun e w' => e = .returned (.tuple #[.pointer none, .int .i64 3]) ∧ w = w' := by
  by_cases h1 : x < 1
  · go_enter Try.func48, Try.ntmps48
    go_wp2
    go_ret2
    exact ⟨rfl, rfl⟩
  · have h2 : 1048576 < x := by omega
    go_enter Try.func48, Try.ntmps48
    go_wp2
    go_ret2
    exact ⟨rfl, rfl⟩
set_option maxRecDepth 100000 in
theorem rNew_ok (w : World) (N : Nat) (h1 : 1 ≤ N) (h2 : N ≤ 1048576) : Calls Try.prog 48 #[.int .i64 (N : Int)] w fun e w' => e = .returned (.tuple #[.pointer (some ⟨w.heap.size, 0, none⟩), .int .i64 0]) ∧
    Rq w' w.heap.size (w.heap.size + 1) (.slice none 0 0) N [] 0 false ∧ OnlyIn [] w w' := by
  have g1 : ¬ ((N : Int) < 1) := by omega
  have g2 : ¬ ((1048576 : Int) < (N : Int)) := by omega
  go_enter Try.func48, Try.ntmps48
  go_wp2
  go_ret2
  exact ⟨rfl, ⟨Blk.new w _ [.int .i64 (N : Int), .slice none 0 0, .int .i64 0, .bool false], Sl.nil _ _ _ _, h2, by simp, by simp, by simp⟩, (OnlyIn.refl _ _).alloc _⟩

section
variable (w : World) {b base N read : Nat} {v : Value} {all : List UInt8} {over : Bool} (h : Rq w b base v N all read over)
include h
set_option maxRecDepth 100000 in
theorem rFree_any : Calls Try.prog 65 #[.pointer (some ⟨b, 0, none⟩)] w fun e w' => e = .returned (.int .i64 ((N : Int) - ((all.length : Int) - (read : Int) / 8))) ∧ ∃ k, w' = w.drewN k := by
  obtain ⟨A, c, rfl, hc⟩ := h.sl.val
  have c0 := h.blk.cell (i := 0) rfl
  have c1 := h.blk.cell (i := 1) rfl
  have c2 := h.blk.cell (i := 2) rfl
  obtain ⟨g1, g2, g3, g4⟩ := And.intro h.most (And.intro h.small (And.intro h.rd h.room))
  have hw1 : IntKind.i64.wrap ((all.length : Int) - (read : Int) / 8) = (all.length : Int) - (read : Int) / 8 := by rw [IntKind.wrap_i64]; omega
  have hw2 : IntKind.i64.wrap ((N : Int) - ((all.length : Int) - (read : Int) / 8)) = (N : Int) - ((all.length : Int) - (read : Int) / 8) := by rw [IntKind.wrap_i64]; omega
  clear h
  go_enter Try.func65, Try.ntmps65
  go_wp2
  go_quiet (fail)
  go_wp2
  go_ret
  exact ⟨rfl, _, rfl⟩
set_option maxRecDepth 100000 in
theorem rLeft_any : Calls Try.prog 66 #[.pointer (some ⟨b, 0, none⟩)] w fun e w' => e = .returned (.int .i64 (8 * (all.length : Int) - (read : Int))) ∧ ∃ k, w' = w.drewN k := by
  obtain ⟨A, c, rfl, hc⟩ := h.sl.val
  have c1 := h.blk.cell (i := 1) rfl
  have c2 := h.blk.cell (i := 2) rfl
  obtain ⟨g1, g2, g3, g4⟩ := And.intro h.most (And.intro h.small (And.intro h.rd h.room))
  clear h
  go_enter Try.func66, Try.ntmps66
  go_wp2
  go_quiet (fail)
  go_wp2
  go_ret
  exact ⟨rfl, _, rfl⟩
set_option maxRecDepth 100000 in
theorem rSkip_bad (n : Int) (hn : n < 0 ∨ 8 * (all.length : Int) - (read : Int) < n) : Calls Try.prog 53 #[.pointer (some ⟨b, 0, none⟩), .int .i64 n] w fun e w' => e = .returned (.int .i64 3) ∧ OnlyIn [] w w' := by
  by_cases h1 : n < 0
  · clear h
    go_enter Try.func53, Try.ntmps53
    go_wp2
    go_ret
    exact ⟨rfl, .refl _ _⟩
  · have h2 : 8 * (all.length : Int) - (read : Int) < n := by omega
    go_enter Try.func53, Try.ntmps53
    go_wp2_with (go_at_call 66; refine (rLeft_any w h).mono ?_; rintro e w' ⟨rfl, k, rfl⟩)
    go_ret
    exact ⟨rfl, (OnlyIn.refl _ _).drewN k⟩
set_option maxRecDepth 100000 in
theorem rSkip_ok (n : Nat) (hn : read + n ≤ 8 * all.length) : Calls Try.prog 53 #[.pointer (some ⟨b, 0, none⟩), .int .i64 (n : Int)] w fun e w' => e = .returned (.int .i64 0) ∧ Rq w' b base v N all (read + n) over ∧ OnlyIn [b] w w' := by
  have c2 := h.blk.cell (i := 2) rfl
  have f2 := h.blk.free 2
  obtain ⟨g1, g2, g3, g4⟩ := And.intro h.most (And.intro h.small (And.intro h.rd h.room))
  have d1 : ¬ (n : Int) < 0 := by omega
  have d2 : ¬ 8 * (all.length : Int) - (read : Int) < (n : Int) := by omega
  have H := Lib.hid h
  go_enter Try.func53, Try.ntmps53
  go_wp2_with (go_at_call 66; refine (rLeft_any w h).mono ?_; rintro e w' ⟨rfl, k, rfl⟩)
  go_ret
  exact ⟨rfl, ⟨((H.out.blk.drewN k).set 2 _), (H.out.sl.drewN k).setCell (p := ⟨b, 2, none⟩) (H.out.sl.ne_blk H.out.blk (by decide)) _, g1, g2, by omega, by omega⟩, ((OnlyIn.refl _ _).drewN k).setCell (.inl (by simp)) _⟩
end
set_option maxRecDepth 100000 in
theorem rEnd_over (w : World) {b base N read : Nat} {v : Value} {all : List UInt8} (h : Rq w b base v N all read true) : Calls Try.prog 54 #[.pointer (some ⟨b, 0, none⟩)] w fun e w' => e = .returned (.int .i64 20) ∧ w = w' := by
  have c3 := h.blk.cell (i := 3) rfl
  clear h
  go_enter Try.func54, Try.ntmps54
  go_wp2
  go_ret
  exact ⟨rfl, rfl⟩
set_option maxRecDepth 100000 in
theorem rEnd_ok (w : World) {b base N read : Nat} {v : Value} {all : List UInt8} (h : Rq w b base v N all read false) : Calls Try.prog 54 #[.pointer (some ⟨b, 0, none⟩)] w fun e w' => e = .returned (.int .i64 0) ∧ Rq w' b base v N all read true ∧ OnlyIn [b] w w' := by
  have c3 := h.blk.cell (i := 3) rfl
  have f3 := h.blk.free 3
  have H := Lib.hid h
  clear h
  go_enter Try.func54, Try.ntmps54
  go_wp2
  go_ret
  exact ⟨rfl, ⟨(H.out.blk.set 3 _), H.out.sl.setCell (p := ⟨b, 3, none⟩) (H.out.sl.ne_blk H.out.blk (by decide)) _, H.out.most, H.out.small, H.out.rd, H.out.room⟩, (OnlyIn.refl _ _).setCell (.inl (by simp)) _⟩

set_option maxRecDepth 100000 in
theorem rFeed_over (w : World) {b base N read : Nat} {v : Value} {all : List UInt8} (h : Rq w b base v N all read true) (u : Value) : Calls Try.prog 50 #[.pointer (some ⟨b, 0, none⟩), u] w fun e w' => e = .returned (.tuple #[.int .i64 0, .int .i64 20]) ∧ w = w' := by
  have c3 := h.blk.cell (i := 3) rfl
  clear h
  go_enter Try.func50, Try.ntmps50
  go_wp2
  go_ret2
  exact ⟨rfl, rfl⟩

set_option maxRecDepth 100000 in
theorem rFeed_ok (w : World) {b base N read : Nat} {v : Value} {all : List UInt8} (h : Rq w b base v N all read false) (hbase : base ≤ w.heap.size) (u : Value) (bs : List UInt8) (hr : Rd w 1 u bs.length (byteCells bs)) (hl : bs.length ≤ 100000) (hal : all.length ≤ 900000) :
    Calls Try.prog 50 #[.pointer (some ⟨b, 0, none⟩), u] w fun e w' => e = .returned (.tuple #[.int .i64 ((min bs.length (N - (all.length - read / 8)) : Nat) : Int), .int .i64 0]) ∧
      ∃ v', Rq w' b base v' N (all ++ bs.take (N - (all.length - read / 8))) read false ∧ OnlyIn (b :: v.ownBlock.toList) w w' ∧ (∀ g, v'.ownBlock = some g → v.ownBlock = some g ∨ w.heap.size ≤ g) := by
  obtain ⟨i0, hi0, hz0, hz1, hz2⟩ := info_parts Try.infoB
  obtain ⟨A, c, rfl, hc⟩ := h.sl.val
  have hr' := hr
  obtain ⟨-, A1, c1, rfl, hc1, hA1⟩ := hr'
  clear hA1
  have q1 := h.blk.cell (i := 1) rfl
  have q3 := h.blk.cell (i := 3) rfl
  have f1 := h.blk.free 1
  obtain ⟨g1, g2, g3, g4⟩ := And.intro h.most (And.intro h.small (And.intro h.rd h.room))
  have hb1 := h.blk.lt
  have hne := h.blk.ne_own h.sl (by decide)
  generalize hm : min bs.length (N - (all.length - read / 8)) = m at *
  have hm1 : m ≤ bs.length := by omega
  have hmn : min (bs.length : Int) ((N : Int) - ((all.length : Int) - (read : Int) / 8)) = (m : Int) := by omega
  have hmn2 : (if ((N : Int) - ((all.length : Int) - (read : Int) / 8)) < (bs.length : Int) then ((N : Int) - ((all.length : Int) - (read : Int) / 8)) else (bs.length : Int)) = (m : Int) := by split <;> omega
  have htk := hr.take (m := m) hm1 (by omega)
  have htl : (bs.take m) = bs.take (N - (all.length - read / 8)) := by
    rcases Nat.lt_or_ge bs.length (N - (all.length - read / 8)) with h1 | h1
    · rw [List.take_of_length_le (by omega), List.take_of_length_le (by omega)]
    · rw [show m = N - (all.length - read / 8) by omega]
  have HM := Lib.hid (And.intro hm htl)
  clear hm htl
  go_enter Try.func50, Try.ntmps50
  go_wp2_with (go_at_call 65; refine (rFree_any w h).mono ?_; rintro e w' ⟨rfl, k, rfl⟩)
  have hslk := h.sl.drewN (k + 1)
  have htk' := htk.drewN (k + 1)
  have hblk := h.blk.drewN (k + 1)
  have hmc : m ≤ c1 := by omega
  have H := Lib.hid h
  clear h hr
  go_region_law (refine step_append_sl rfl _ _ 54 rfl base 5 i0 _ 1 1 Try.underlying54 hi0 hz0 hz1 hz2 rfl (by decide) (.slice A all.length c) all.length (byteCells all) rfl hslk (.slice A1 m c1) m (byteCells (bs.take m)) rfl htk' (byteCells_one _) (by simp only [maxLen]; omega) (by omega) hbase ?_; intro v' w2 hs' hg' hat'; obtain ⟨A2, c2, rfl, hc2⟩ := hs'.val; have hb2 : Blk w2 b 101 _ := hblk.grown hg' hne; have e1 := hb2.cell (i := 1) rfl; have e2 := hb2.free 1)
  all_goals
    have HS := Lib.hid (And.intro hs' (And.intro hg' (And.intro hat' hb2)))
    clear hs' hg' hat' hslk htk' hblk hb2
    go_wp2_with fail
    go_ret2
    obtain ⟨hs', hg', hat', hb2⟩ := HS.out
    obtain ⟨hm, htl⟩ := HM.out
    have hl2 : (all ++ bs.take m).length = all.length + m := by simp; omega
    rw [← htl]
    refine ⟨rfl, .slice A2 (all.length + m) c2, ⟨hb2.set 1 _, ?_, g1, by omega, by omega, by omega⟩, ?_, fun g hg => (hat' g hg).imp id (fun h => by simpa using h)⟩
    · rw [hl2, byteCells_append]
      exact hs'.setCell (p := ⟨b, 1, none⟩) (hs'.ne_blk hb2 (by decide)) _
    · exact ((((OnlyIn.refl _ _).drewN k).drew).grown hg' (fun g hg => .inl (by simp [hg]))).setCell (p := ⟨b, 1, none⟩) (.inl (by simp)) _

theorem Rd_sliced {w : World} {A : Option Addr} {n c l : Nat} {bs : List UInt8} (h : Rd w 1 (.slice A n c) n (byteCells bs)) (hl : l ≤ n) (hn : bs.length = n) : Rd w 1 (.slice (if c = l then A else A.map (fun x => x.add l)) (n - l) (c - l)) (n - l) (byteCells (bs.drop l)) := by
  obtain ⟨h1, A', c', hv, hc, hA⟩ := h
  injection hv with hv _ hcc
  subst hv hcc
  refine ⟨by simp [byteCells, hn], _, _, rfl, by omega, fun hp => ?_⟩
  obtain ⟨g, off, rfl, hg⟩ := hA (by omega)
  rw [if_neg (by omega)]
  refine ⟨g, off + l, by simp [Addr.add], fun j u hu => ?_⟩
  have hu2 : (byteCells bs)[l + j]? = some u := by
    simp only [byteCells, List.map_drop, List.getElem?_drop] at hu
    exact hu
  have := hg (l + j) u hu2
  rwa [← Nat.add_assoc] at this
set_option maxRecDepth 100000 in
set_option maxHeartbeats 1000000 in
theorem rBits_any (w : World) {b base N read : Nat} {v : Value} {all : List UInt8} {over : Bool} (h : Rq w b base v N all read over) :
    Calls Try.prog 67 #[.pointer (some ⟨b, 0, none⟩)] w fun e w' => ∃ u, e = .returned (.tuple #[u, .int .i64 ((read % 8 : Nat) : Int)]) ∧ Sl w' w.heap.size 5 1 u (all.drop (read / 8)).length (byteCells (all.drop (read / 8))) ∧ OnlyIn [] w w' := by
  obtain ⟨i0, hi0, hz0, hz1, hz2⟩ := info_parts Try.infoB
  obtain ⟨A, c, rfl, hc⟩ := h.sl.val
  have q1 := h.blk.cell (i := 1) rfl
  have q2 := h.blk.cell (i := 2) rfl
  have g2 := h.small
  have g3 := h.rd
  obtain ⟨q, hq⟩ : ∃ q, read / 8 = q := ⟨_, rfl⟩
  obtain ⟨m, hm⟩ : ∃ m, read % 8 = m := ⟨_, rfl⟩
  have hdv : (read : Int) / 8 = (q : Int) := by omega
  have hmd : (read : Int) % 8 = (m : Int) := by omega
  have htd : (read : Int).tdiv 8 = (q : Int) := by rw [Int.tdiv_eq_ediv_of_nonneg (by omega)]; exact hdv
  have htm : (read : Int).tmod 8 = (m : Int) := by rw [Int.tmod_eq_emod_of_nonneg (by omega)]; exact hmd
  have hqa : q ≤ all.length := by omega
  rw [hq, hm]
  have hblk := h.blk
  have hb1 := h.blk.lt
  have hrs := Rd_sliced (l := q) (Rd.of_sl h.sl) hqa rfl
  have hlen : (all.drop q).length = all.length - q := List.length_drop
  obtain ⟨X, hX⟩ : ∃ X, all.drop q = X := ⟨_, rfl⟩
  rw [hX] at hrs hlen ⊢
  obtain ⟨B, hB⟩ : ∃ B, (if c = q then A else A.map (fun x => x.add q)) = B := ⟨_, rfl⟩
  obtain ⟨d, hd⟩ : ∃ d, c - q = d := ⟨_, rfl⟩
  rw [hB, hd, ← hlen] at hrs
  have hwq : IntKind.i64.wrap (q : Int) = (q : Int) := by rw [IntKind.wrap_i64]; omega
  have hwm : IntKind.i64.wrap (m : Int) = (m : Int) := by rw [IntKind.wrap_i64]; omega
  have hlen' : all.length - q = X.length := hlen.symm
  have hXb : X.length ≤ 1000000 := by omega
  have hlit : Sl (w.alloc (.cells (byteCells []).toArray 5)) w.heap.size 5 1 (.slice (some ⟨w.heap.size, 0, none⟩) 0 0) 0 (byteCells []) := Sl.lit w (byteCells []) 5 0 rfl (by decide) (Nat.le_refl _)
  have hB1 := Lib.hid (fun w2 row (hg : ((w.alloc (.cells (byteCells []).toArray 5)).drew).grownBy w2 row) hr => ((hblk.alloc (.cells (byteCells []).toArray 5)).drew).grown hg hr)
  have hrd : Rd ((w.alloc (.cells (byteCells []).toArray 5)).drew) 1 (.slice B X.length d) X.length (byteCells X) := hrs.cells fun p u hp => (((OnlyIn.refl [] w).alloc _).drew).cell hp (by simp)
  clear h hblk hq hm hdv hmd hX hlen hrs
  go_enter Try.func67, Try.ntmps67
  go_wp2_with fail
  go_region_law (refine step_append_sl rfl _ _ 54 rfl w.heap.size 5 i0 _ 1 1 Try.underlying54 hi0 hz0 hz1 hz2 rfl (by decide) (.slice (some ⟨w.heap.size, 0, none⟩) 0 0) 0 (byteCells []) rfl hlit.drew (.slice B X.length d) X.length (byteCells X) rfl hrd (byteCells_one _) (by simp only [maxLen]; omega) (by omega) (by simp) ?_; intro v' w2 hs' hg' hat'; have k1 := hB1.out w2 _ hg' (by simp [Value.ownBlock]; omega); have k2 := k1.cell (i := 2) rfl)
  all_goals
    have o2 := (((OnlyIn.refl [] w).alloc (.cells (byteCells []).toArray 5)).drew).grown hg' (fun g hg => .inr (by cases hg; exact Nat.le_refl _))
    rw [Nat.zero_add] at hs'
    have HS := Lib.hid (And.intro hs' o2)
    clear hs' hg' hat' k1 k2 hrd hlit hB1 o2
    go_wp2_with fail
    go_ret2
    exact ⟨_, rfl, HS.out.1, HS.out.2⟩
end Go.Proofs.Ytcgbafdagckgcaa
