/-
  Package pool: Reclaim.
-/
import Derived.Test.YtmbnmhcfafgnaaaPool4
namespace Go.Mine
/-- What is left when the first k frames were looked at. -/
def recK (fs : List Fr) (o : Int) : Nat → List Fr
  | 0 => fs
  | k + 1 => if (frAt fs k).owner = o ∧ 0 < o then (recK fs o k).set k ⟨0, 0, (frAt fs k).data⟩ else recK fs o k
theorem recK_length (fs : List Fr) (o : Int) (k : Nat) : (recK fs o k).length = fs.length := by
  induction k with
  | zero => rfl
  | succ k ih =>
    unfold recK
    split
    · rw [List.length_set]; exact ih
    · exact ih
theorem recK_ge (fs : List Fr) (o : Int) {k j : Nat} (h : k ≤ j) : frAt (recK fs o k) j = frAt fs j := by
  induction k with
  | zero => rfl
  | succ k ih =>
    unfold recK
    split
    · rw [frAt_set_ne (by omega)]; exact ih (by omega)
    · exact ih (by omega)
def freed (o : Int) (f : Fr) : Fr := if f.owner = o ∧ 0 < o then ⟨0, 0, f.data⟩ else f
theorem recK_lt (fs : List Fr) (o : Int) {k j : Nat} (h : j < k) (hj : j < fs.length) : frAt (recK fs o k) j = freed o (frAt fs j) := by
  induction k with
  | zero => omega
  | succ k ih =>
    unfold recK
    by_cases e : j = k
    · subst e
      unfold freed
      split
      · exact frAt_set_same (by rw [recK_length]; exact hj) _
      · exact recK_ge fs o (Nat.le_refl _)
    · split
      · rw [frAt_set_ne (by omega)]; exact ih (by omega)
      · exact ih (by omega)
def recS (fs : List Fr) (o : Int) : List Fr := recK fs o fs.length
theorem recS_at (fs : List Fr) (o : Int) {j : Nat} (hj : j < fs.length) : frAt (recS fs o) j = freed o (frAt fs j) := recK_lt fs o hj hj
def recC (fs : List Fr) (o : Int) (k : Nat) : Nat := if 0 < o then cntO (fs.take k) o else 0
theorem recC_zero (fs : List Fr) (o : Int) : recC fs o 0 = 0 := by unfold recC; split <;> simp [cntO]
theorem recC_succ (fs : List Fr) (o : Int) {k : Nat} (h : k < fs.length) : recC fs o (k + 1) = recC fs o k + (if (frAt fs k).owner = o ∧ 0 < o then 1 else 0) := by
  unfold recC
  rw [frAt_eq h]
  split
  · rename_i h0
    unfold cntO
    rw [List.take_add_one, List.getElem?_eq_getElem h, Option.toList_some, List.countP_append]
    simp [h0]
  · rename_i h0
    rw [if_neg (fun hh => h0 hh.2)]
theorem recC_le (fs : List Fr) (o : Int) (k : Nat) : recC fs o k ≤ fs.length := by
  unfold recC
  split
  · exact Nat.le_trans (cntO_le _ _) (by rw [List.length_take]; omega)
  · omega
theorem recC_all (fs : List Fr) (o : Int) : (recC fs o fs.length : Int) = heldN fs o := by
  unfold recC heldN
  rw [List.take_length]
  split <;> rfl
end Go.Mine
namespace Go.Proofs.Ytmbnmhcfafgnaaa
open Go.RowKit Go.Mine

section
variable {w w1 w' : World} {base b N T : Nat} {quota : Int} {B : PB} {iv iv1 : Value} {il : List Nat} {fs fs1 : List Fr}

set_option maxRecDepth 100000 in
set_option maxHeartbeats 2000000 in
theorem pl_reclaim (h : PlAt w base b N T quota B iv il fs) (hT : T + 64 < 100000) (o : Int) (hb : ∀ f ∈ fs, 0 ≤ f.handles ∧ f.handles ≤ 1000000 ∧ 0 ≤ f.owner ∧ f.owner ≤ 2147483647) :
    Calls Try.prog 45 #[.pointer (some ⟨b, 0, none⟩), .int .i64 o] w fun e w' => e = .returned (.tuple #[.int .i64 (heldN fs o), .int .i64 0]) ∧ PlOut w w' base b N (T + 64) quota B iv (recS fs o) := by
  have hno := pl_none h
  have c0 := h.blk.cell (i := 0) rfl
  have h64 := h.n64
  have hls := h.ls
  have H0 : Hid (PlAt w base b N (T + 0) quota B iv il (recK fs o 0)) := Lib.hid h
  clear h
  go_enter Try.func45, Try.ntmps45
  go_wp2_with (go_at_call 55; refine hno.mono ?_; rintro e w' ⟨rfl, rfl⟩)
  go_loopw [4, 15] (fun m i wr => ∃ (k : Nat) (iv' : Value) (il' : List Nat), k ≤ N ∧ i = .int .i64 (k : Int) ∧ m = .int .i64 (recC fs o k : Int) ∧ Hid (PlAt wr base b N (T + k) quota B iv' il' (recK fs o k) ∧ OnlyIn (b :: B.mb :: (iv.ownBlock.toList ++ B.fbs)) w wr ∧ (∀ g, iv'.ownBlock = some g → iv.ownBlock = some g ∨ w.heap.size ≤ g))) (fun _ i _ => N - (RowKit.intOf i).toNat)
  case atStart => exact ⟨0, iv, il, by omega, rfl, by rw [recC_zero]; rfl, Lib.hid ⟨H0.out, OnlyIn.refl _ _, fun g hg => .inl hg⟩⟩
  case round =>
    obtain ⟨k, iv', il', hk, rfl, rfl, HR⟩ := hrel
    have hrb := recC_le fs o k
    obtain ⟨rc, hrc⟩ : ∃ c, recC fs o k = c := ⟨_, rfl⟩
    by_cases hlt : k < N
    · have hc1 := HR.out.1.rest.ptr hlt
      have hc2 := (HR.out.1.rest.fr k hlt).blk.cell (i := 0) rfl
      rw [recK_ge fs o (Nat.le_refl _)] at hc2
      have hcs := recC_succ fs o (k := k) (by omega)
      have hwc : IntKind.i64.wrap ((rc : Int) + 1) = (rc : Int) + 1 := by rw [IntKind.wrap_i64]; omega
      by_cases hy : (frAt fs k).owner = o ∧ 0 < o
      · rw [hy.1] at hc2
        have hbd := hb (frAt fs k) (by rw [frAt_eq (by omega)]; exact List.getElem_mem _)
        have hfr := pl_frees HR.out.1 hlt (o := o) (by rw [recK_ge fs o (Nat.le_refl _)]; exact hy.1) (by omega) (by omega)
        rw [recK_ge fs o (Nat.le_refl _)] at hfr
        have e1 : recK fs o (k + 1) = (recK fs o k).set k ⟨0, 0, (frAt fs k).data⟩ := if_pos hy
        rw [if_pos hy] at hcs
        rw [← e1] at hfr
        have d1 : decide (0 < o) = true := decide_eq_true hy.2
        rw [hrc] at hcs
        have HQ := Lib.hid (And.intro hcs hls)
        clear hcs hbd hb e1 H0 hrb hy
        rw [hrc]
        clear hrc
        go_wp2_with fail
        refine hfr.mono ?_
        rintro e w2 ⟨⟨v, rfl⟩, hX⟩
        have HX := Lib.hid hX
        clear hX hfr
        go_wp2_with fail
        go_roundw
        case rel =>
          obtain ⟨iv2, il2, hP, ht, hg⟩ := HX.out.after HR.out.2.1 HR.out.2.2
          exact ⟨k + 1, iv2, il2, by omega, by go_num, by rw [HQ.out.1]; go_num, Lib.hid ⟨hP, ht, hg⟩⟩
        case measure => simp [RowKit.intOf]; omega
      · rw [if_neg hy] at hcs
        have e1 : recK fs o (k + 1) = recK fs o k := if_neg hy
        rw [hrc] at hcs
        have HQ := Lib.hid (And.intro hcs e1)
        rw [hrc]
        by_cases hy2 : (frAt fs k).owner = o
        · rw [hy2] at hc2
          have d1 : decide (0 < o) = false := decide_eq_false (fun h => hy ⟨hy2, h⟩)
          clear hcs hb e1 H0 hrb hy hrc
          go_wp2_with fail
          go_roundw
          case rel => exact ⟨k + 1, iv', il', by omega, by go_num, by rw [HQ.out.1]; go_num, Lib.hid ⟨by rw [HQ.out.2]; exact HR.out.1.more (by omega), HR.out.2⟩⟩
          case measure => simp [RowKit.intOf]; omega
        · obtain ⟨z, hz⟩ : ∃ z, (frAt fs k).owner = z := ⟨_, rfl⟩
          rw [hz] at hc2 hy2
          have d1 : (z == o) = false := by simpa using hy2
          clear hcs hb e1 H0 hrb hy hrc hz
          go_wp2_with fail
          go_roundw
          case rel => exact ⟨k + 1, iv', il', by omega, by go_num, by rw [HQ.out.1]; go_num, Lib.hid ⟨by rw [HQ.out.2]; exact HR.out.1.more (by omega), HR.out.2⟩⟩
          case measure => simp [RowKit.intOf]; omega
    · obtain rfl : k = N := by omega
      have hall : (recC fs o k : Int) = heldN fs o := by rw [← recC_all, hls]
      have hst : recS fs o = recK fs o k := by unfold recS; rw [hls]
      rw [hall]
      have HS := Lib.hid hst
      clear H0 hb hall hst
      go_wp2_with fail
      go_ret2
      exact ⟨rfl, iv', il', by rw [HS.out]; exact HR.out.1.more (by omega), HR.out.2⟩
end
end Go.Proofs.Ytmbnmhcfafgnaaa
