/-
  Law 23: the pool and its reference side by side; alike.
-/
import Derived.Test.YtmbnmhcfafgnaaaRefPool5
import Derived.Test.YtmbnmhcfafgnaaaOwnLaw
import Derived.Test.YtmbnmhcfafgnaaaKitBytes
import Derived.Test.YtmbnmhcfafgnaaaOpen23
namespace Go.Proofs.Ytmbnmhcfafgnaaa
open Go.RowKit Go.Mine

structure Bo (w0 w : World) (base b N T : Nat) (q : Int) (fs : List Fr) (L : List Nat) (base2 b2 lb : Nat) (R : List RRow) : Prop where
  pl : PlS w base b N T q fs L
  rf : RfAt w base2 b2 lb N q R
  dis : ∀ k ∈ rOwn b2 lb R, k ∉ L
  only : OnlyIn [] w0 w
  l1 : w0.heap.size ≤ base
  l2 : w0.heap.size ≤ base2
section
variable {w0 w w' : World} {base b N T : Nat} {q : Int} {fs fs' : List Fr} {L : List Nat} {base2 b2 lb : Nat} {R : List RRow} {H : Int}
theorem Bo.only0 (h : Bo w0 w base b N T q fs L base2 b2 lb R) (ht : OnlyIn [] w w') : Bo w0 w' base b N T q fs L base2 b2 lb R :=
  ⟨h.pl.only ht (by simp), h.rf.only ht (by simp), h.dis, h.only.trans ht, h.l1, h.l2⟩
theorem Bo.still (h : Bo w0 w base b N T q fs L base2 b2 lb R) {T' : Nat} {L' : List Nat} (h1 : PlS w' base b N T' q fs' L') (ht : OnlyIn L w w') (hl : ∀ k ∈ L', k ∈ L ∨ w.heap.size ≤ k) : Bo w0 w' base b N T' q fs' L' base2 b2 lb R :=
  ⟨h1, h.rf.only ht (fun k hk hm => h.dis k hm hk), fun k hk hm => by
    rcases hl k hm with hh | hh
    · exact h.dis k hk hh
    · have := (h.rf.lt k hk).2
      omega, h.only.then ht (fun k hk => .inr (Nat.le_trans h.l1 (h.pl.lo k hk))), h.l1, h.l2⟩
theorem Bo.pool (h : Bo w0 w base b N T q fs L base2 b2 lb R) {T' : Nat} (hg : PlGo w w' base b N T' q fs' L) : ∃ L', Bo w0 w' base b N T' q fs' L' base2 b2 lb R ∧ OnlyIn L w w' := by
  obtain ⟨L', h1, ht, hl⟩ := hg
  exact ⟨L', h.still h1 ht hl, ht⟩
theorem Bo.rstill (h : Bo w0 w base b N T q fs L base2 b2 lb R) {R' : List RRow} (h1 : RfAt w' base2 b2 lb N q R') (ht : OnlyIn [lb] w w') (hl : ∀ k ∈ rOwn b2 lb R', k ∈ rOwn b2 lb R ∨ w.heap.size ≤ k) : Bo w0 w' base b N T q fs L base2 b2 lb R' := by
  have hlb : lb ∈ rOwn b2 lb R := by unfold rOwn; simp
  refine ⟨h.pl.only ht (fun k hk => ?_), h1, fun k hk hm => ?_, h.only.then ht (fun k hk => .inr ?_), h.l1, h.l2⟩
  · simp only [List.mem_singleton] at hk
    subst hk
    exact h.dis _ hlb
  · rcases hl k hk with hh | hh
    · exact h.dis k hh hm
    · have := h.pl.lt k hm
      omega
  · simp only [List.mem_singleton] at hk
    subst hk
    exact Nat.le_trans h.l2 h.rf.bb.2
theorem Bo.ref (h : Bo w0 w base b N T q fs L base2 b2 lb R) (hg : RfGo w w' base2 b2 lb N q R fs') : ∃ R', Bo w0 w' base b N T q fs L base2 b2 lb R' ∧ rFs R' = fs' ∧ OnlyIn [lb] w w' := by
  obtain ⟨R', h1, h2, ht, hl⟩ := hg
  exact ⟨R', h.rstill h1 ht hl, h2, ht⟩

theorem Bo.near (h : Bo w0 w base b N T q fs L base2 b2 lb R) {S : List Nat} (ht : OnlyIn S w w') (hS : ∀ k ∈ S, k ∉ L ∧ k ∉ rOwn b2 lb R ∧ w0.heap.size ≤ k) : Bo w0 w' base b N T q fs L base2 b2 lb R :=
  ⟨h.pl.only ht (fun k hk => (hS k hk).1), h.rf.only ht (fun k hk => (hS k hk).2.1), h.dis, h.only.then ht (fun k hk => .inr (hS k hk).2.2), h.l1, h.l2⟩
/-- A byte of the reference's frame. -/
theorem RfAt.write (h : RfAt w base2 b2 lb N q R) {i x : Nat} {f : Fr} (hr : R[i]? = some (f, some x)) (at_ : Nat) (v : UInt8) :
    RfAt (w.setCell ⟨x, at_, none⟩ (.int .u8 (v.toNat : Int))) base2 b2 lb N q (R.set i (⟨f.owner, f.handles, f.data.set at_ v⟩, some x)) := by
  have hX := (h.yes i f x hr).1
  have hi := (List.getElem?_eq_some_iff.1 hr).1
  have ht : OnlyIn [x] w (w.setCell ⟨x, at_, none⟩ (.int .u8 (v.toNat : Int))) := (OnlyIn.refl _ _).setCell (.inl (by simp)) _
  have hfl : (R.set i (⟨f.owner, f.handles, f.data.set at_ v⟩, some x)).flatMap rcells = R.flatMap rcells := by
    rw [← rset hr 0 (by omega) (.int .i64 f.owner) (y := (⟨f.owner, f.handles, f.data.set at_ v⟩, some x)) rfl]
    apply List.ext_getElem?
    intro j
    by_cases e : i * 3 + 0 = j
    · rw [← e, List.getElem?_set_self (by rw [flat_length rcells_len]; omega), flat_get rcells_len R i 0 (by omega), hr]
      rfl
    · rw [List.getElem?_set_ne e]
  have key : ∀ (j : Nat) (g : Fr) (bo' : Option Nat), (R.set i (⟨f.owner, f.handles, f.data.set at_ v⟩, some x))[j]? = some (g, bo') → (j = i ∧ g = ⟨f.owner, f.handles, f.data.set at_ v⟩ ∧ bo' = some x) ∨ (j ≠ i ∧ R[j]? = some (g, bo')) := fun j g bo' hj => by
    by_cases e : i = j
    · subst e
      rw [List.getElem?_set_self hi] at hj
      injection hj with hj
      injection hj with h1 h2
      exact .inl ⟨rfl, h1.symm, h2.symm⟩
    · rw [List.getElem?_set_ne e] at hj
      exact .inr ⟨fun e2 => e e2.symm, hj⟩
  have ha := h.arr.only ht fun hm => (by simp only [List.mem_singleton] at hm; exact h.arr.ne_ hX (by decide) hm)
  rw [← hfl] at ha
  refine ⟨h.blk.only ht fun hm => ?_, ha, by rw [List.length_set]; exact h.len, fun j g bo' hj => ?_, fun j g y hj => ?_, fun j1 j2 g1 g2 y h1 h2 => ?_, h.bb, h.n64⟩
  · simp only [List.mem_singleton] at hm
    exact h.blk.ne_ hX (by decide) hm
  · rcases key j g bo' hj with ⟨rfl, rfl, rfl⟩ | ⟨-, hj⟩
    · exact ⟨by rw [List.length_set]; exact (h.dl _ _ _ hr).1, fun e => by cases e⟩
    · exact h.dl j g bo' hj
  · rcases key j g _ hj with ⟨rfl, rfl, e⟩ | ⟨hne, hj2⟩
    · injection e with e
      subst e
      have := hX.set at_ (.int .u8 (v.toNat : Int))
      rw [← byteCells_set] at this
      exact ⟨this, (h.yes j f y hr).2⟩
    · refine ⟨(h.yes j g y hj2).1.only ht fun hm => ?_, (h.yes j g y hj2).2⟩
      simp only [List.mem_singleton] at hm
      subst hm
      exact hne (h.nb _ _ _ _ _ hj2 hr)
  · rcases key _ _ _ h1 with ⟨e1, -, e2⟩ | ⟨e1, e2⟩ <;> rcases key _ _ _ h2 with ⟨e3, -, e4⟩ | ⟨e3, e4⟩
    · rw [e1, e3]
    · injection e2 with e2
      subst e2
      rw [e1]
      exact h.nb _ _ _ _ _ hr e4
    · injection e4 with e4
      subst e4
      rw [e3]
      exact h.nb _ _ _ _ _ e2 hr
    · exact h.nb _ _ _ _ _ e2 e4
theorem rOwn_write {i x : Nat} {f g : Fr} (hr : R[i]? = some (f, some x)) : ∀ k ∈ rOwn b2 lb (R.set i (g, some x)), k ∈ rOwn b2 lb R := by
  intro k hk
  unfold rOwn at hk ⊢
  simp only [List.mem_cons, List.mem_filterMap] at hk ⊢
  rcases hk with rfl | rfl | ⟨⟨g', bo'⟩, hm, hb'⟩
  · exact .inl rfl
  · exact .inr (.inl rfl)
  · simp only at hb'
    subst hb'
    rcases List.mem_or_eq_of_mem_set hm with hm | hm
    · exact .inr (.inr ⟨_, hm, rfl⟩)
    · injection hm with _ hm
      exact .inr (.inr ⟨_, List.mem_of_getElem? hr, hm.symm⟩)

set_option maxRecDepth 100000 in
set_option maxHeartbeats 1000000 in
theorem alike23 (h : Bo w0 w base b N T q fs L base2 b2 lb R) (he : rFs R = fs) (o : Int) (ho : -9223372036854775808 ≤ o ∧ o ≤ 9223372036854775807) :
    Calls Try.prog 48 #[.pointer (some ⟨b, 0, none⟩), .pointer (some ⟨b2, 0, none⟩), .int .i64 o] w fun e w' => e = .returned (.bool true) ∧ OnlyIn [] w w' := by
  subst he
  have hN := h.rf.n64
  have HB := Lib.hid h
  have c0 := h.rf.blk.cell (i := 0) rfl
  clear h
  go_enter Try.func48, Try.ntmps48
  go_wp2_with fail
  go_loopw [7] (fun i wr => ∃ k : Nat, k ≤ N ∧ i = .int .i64 (k : Int) ∧ Hid (OnlyIn [] w wr)) (fun i _ => N - (RowKit.intOf i).toNat)
  case atStart => exact ⟨0, by omega, rfl, Lib.hid (OnlyIn.refl _ _)⟩
  case round =>
    clear c0
    obtain ⟨k, hk, rfl, HO⟩ := hrel
    have hB := HB.out.only0 HO.out
    have c0 := hB.rf.blk.cell (i := 0) rfl
    have hfl := hB.rf.fl
    by_cases hlt : k < N
    · obtain ⟨bo, hr⟩ := hB.rf.row hlt
      obtain ⟨d0, d1, -⟩ := hB.rf.cell hr
      have how := fun m => go_owner (hB.pl.only (S := []) (show OnlyIn [] wr (wr.drewN m) by (repeat (first | (with_reducible assumption) | (with_reducible exact OnlyIn.refl _ _) | (with_reducible refine OnlyIn.setCell ?_ (by first | simp | (simp; omega)) _) | (with_reducible refine OnlyIn.drewN ?_ _) | (with_reducible refine OnlyIn.drew ?_) | (with_reducible refine OnlyIn.alloc ?_ _)))) (by simp)) (k : Int)
      have hhan := fun m => go_handles (hB.pl.only (S := []) (show OnlyIn [] wr (wr.drewN m) by (repeat (first | (with_reducible assumption) | (with_reducible exact OnlyIn.refl _ _) | (with_reducible refine OnlyIn.setCell ?_ (by first | simp | (simp; omega)) _) | (with_reducible refine OnlyIn.drewN ?_ _) | (with_reducible refine OnlyIn.drew ?_) | (with_reducible refine OnlyIn.alloc ?_ _)))) (by simp)) (k : Int)
      have e1 : ownF (rFs R) (k : Int) = (frAt (rFs R) k).owner := by
        unfold ownF
        rw [if_pos ⟨by omega, by rw [hfl]; omega⟩, Int.toNat_natCast]
      have e2 : hanF (rFs R) (k : Int) = (frAt (rFs R) k).handles := by
        unfold hanF
        rw [if_pos ⟨by omega, by rw [hfl]; omega⟩, Int.toNat_natCast]
      rw [e1] at how
      rw [e2] at hhan
      generalize (frAt (rFs R) k).owner = x at how d0
      generalize (frAt (rFs R) k).handles = y at hhan d1
      clear hB hr hfl e1 e2
      go_wp2_with fail
      go_quiet (first | (with_reducible refine quiet_left (how _)) | (with_reducible refine quiet_left (hhan _)))
      rename_i nq
      have HO' := Lib.hid (HO.out.drewN nq)
      clear how hhan d0 d1 c0
      go_wp2_with fail
      go_roundw
      case rel => exact ⟨k + 1, by omega, by first | rfl | go_num, HO'⟩
      case measure => simp [RowKit.intOf]; omega
    · obtain rfl : N = k := by omega
      have f1 := go_free hB.pl
      have f2 := ref_free hB.rf
      have f3 := go_held hB.pl o ho
      have f4 := ref_held hB.rf o
      have f5 := go_owner hB.pl (-1)
      have f6 := go_handles hB.pl (N : Int)
      rw [show ownF (rFs R) (-1) = 0 from if_neg (by omega)] at f5
      rw [show hanF (rFs R) (N : Int) = 0 from if_neg (by rw [hfl]; omega)] at f6
      generalize ((freeI (rFs R)).length : Int) = x at f1 f2
      generalize heldN (rFs R) o = y at f3 f4
      clear hB hfl
      go_wp2_with (first | (go_at_call 38; refine f1.mono ?_; rintro e w' ⟨rfl, rfl⟩) | (go_at_call 67; refine f2.mono ?_; rintro e w' ⟨rfl, rfl⟩) | (go_at_call 36; refine f3.mono ?_; rintro e w' ⟨rfl, rfl⟩) | (go_at_call 68; refine f4.mono ?_; rintro e w' ⟨rfl, rfl⟩) | (go_at_call 34; refine f5.mono ?_; rintro e w' ⟨rfl, rfl⟩) | (go_at_call 33; refine f6.mono ?_; rintro e w' ⟨rfl, rfl⟩))
      go_ret
      exact ⟨by simp, HO.out⟩
end
end Go.Proofs.Ytmbnmhcfafgnaaa
