/-
  Law 23's reference: Held, refuses, Acquire, Retain, Release, Reclaim.
-/
import Derived.Test.YtmbnmhcfafgnaaaRefPool
namespace Go.Proofs.Ytmbnmhcfafgnaaa
open Go.RowKit Go.Mine
section
variable {w w' : World} {base b lb N : Nat} {q : Int} {R : List RRow} {S : List Nat} {H : Int}

set_option maxRecDepth 100000 in
theorem ref_held (h : RfAt w base b lb N q R) (o : Int) : Calls Try.prog 68 #[.pointer (some ⟨b, 0, none⟩), .int .i64 o] w fun e w' => e = .returned (.int .i64 (heldN (rFs R) o)) ∧ w = w' := by
  have c0 := h.blk.cell (i := 0) rfl
  have HH := Lib.hid h
  have hN := h.n64
  by_cases ho : 0 < o
  · have hh : heldN (rFs R) o = (cntK (rFs R) o N : Int) := by
      unfold heldN
      rw [if_pos ho, ← cntK_all, h.fl]
    rw [hh]
    have dO : decide (0 < o) = true := decide_eq_true ho
    clear h hh
    go_enter Try.func68, Try.ntmps68
    go_wp2_with fail
    go_loopw [5, 6] (fun s i wr => ∃ k : Nat, k ≤ N ∧ s = .int .i64 (cntK (rFs R) o k : Int) ∧ i = .int .i64 (k : Int) ∧ wr = w) (fun _ i _ => N - (RowKit.intOf i).toNat)
    case atStart => exact ⟨0, by omega, by rw [cntK_zero]; rfl, rfl, rfl⟩
    case round =>
      obtain ⟨k, hk, rfl, rfl, rfl⟩ := hrel
      by_cases hlt : k < N
      · obtain ⟨bo, hr⟩ := HH.out.row hlt
        obtain ⟨d0, -, -⟩ := HH.out.cell hr
        have hs := cntK_succ (rFs R) o (k := k) (by rw [HH.out.fl]; exact hlt)
        have hl := cntK_le (rFs R) o k
        generalize (frAt (rFs R) k).owner = z at d0 hs
        by_cases h0 : z = o
        · have d : (z == o) = true := by simpa using h0
          rw [if_pos h0] at hs
          have hw : IntKind.i64.wrap ((cntK (rFs R) o k : Int) + 1) = ((cntK (rFs R) o (k + 1) : Nat) : Int) := by rw [IntKind.wrap_i64, hs]; omega
          clear hr hs hl h0
          go_wp2_with fail
          go_roundw
          case rel => exact ⟨k + 1, by omega, by first | rfl | go_num, by first | rfl | go_num, by first | rfl | trivial⟩
          case measure => simp [RowKit.intOf]; omega
        · have d : (z == o) = false := by simpa using h0
          rw [if_neg h0] at hs
          have HS : cntK (rFs R) o (k + 1) = cntK (rFs R) o k := hs
          have HS := Lib.hid HS
          clear hr hs hl h0
          go_wp2_with fail
          go_roundw
          case rel => exact ⟨k + 1, by omega, by rw [HS.out], by first | rfl | go_num, by first | rfl | trivial⟩
          case measure => simp [RowKit.intOf]; omega
      · obtain rfl : N = k := by omega
        go_wp2_with fail
        go_ret
        exact ⟨rfl, rfl⟩
  · have hh : heldN (rFs R) o = 0 := if_neg ho
    rw [hh]
    have dO : decide (0 < o) = false := decide_eq_false ho
    clear h hh
    go_enter Try.func68, Try.ntmps68
    go_wp2_with fail
    go_loopw [5, 6] (fun s i wr => ∃ k : Nat, k ≤ N ∧ s = .int .i64 0 ∧ i = .int .i64 (k : Int) ∧ wr = w) (fun _ i _ => N - (RowKit.intOf i).toNat)
    case atStart => exact ⟨0, by omega, rfl, rfl, rfl⟩
    case round =>
      obtain ⟨k, hk, rfl, rfl, rfl⟩ := hrel
      by_cases hlt : k < N
      · obtain ⟨bo, hr⟩ := HH.out.row hlt
        obtain ⟨d0, -, -⟩ := HH.out.cell hr
        generalize (frAt (rFs R) k).owner = z at d0
        clear hr
        by_cases h0 : z = o
        · have d : (z == o) = true := by simpa using h0
          clear h0
          go_wp2_with fail
          go_roundw
          case rel => exact ⟨k + 1, by omega, by first | rfl | go_num, by first | rfl | go_num, by first | rfl | trivial⟩
          case measure => simp [RowKit.intOf]; omega
        · have d : (z == o) = false := by simpa using h0
          clear h0
          go_wp2_with fail
          go_roundw
          case rel => exact ⟨k + 1, by omega, by first | rfl | go_num, by first | rfl | go_num, by first | rfl | trivial⟩
          case measure => simp [RowKit.intOf]; omega
      · obtain rfl : N = k := by omega
        go_wp2_with fail
        go_ret
        exact ⟨rfl, rfl⟩

set_option maxRecDepth 100000 in
theorem ref_refuses (h : RfAt w base b lb N q R) (n o : Int) : Calls Try.prog 73 #[.pointer (some ⟨b, 0, none⟩), .int .i64 n, .int .i64 o] w fun e w' => e = .returned (.int .i64 (whyF (rFs R) n o)) ∧ w = w' := by
  have c0 := h.blk.cell (i := 0) rfl
  have hN := h.n64
  have hfl := h.fl
  unfold whyF
  by_cases h1 : n < 0
  · have d1 : decide (n < 0) = true := decide_eq_true h1
    rw [if_neg (by omega)]
    clear h hfl
    go_enter Try.func73, Try.ntmps73
    go_wp2_with fail
    go_ret
    exact ⟨rfl, rfl⟩
  · have d1 : decide (n < 0) = false := decide_eq_false h1
    by_cases h2 : (N : Int) ≤ n
    · have d2 : decide ((N : Int) ≤ n) = true := decide_eq_true h2
      rw [if_neg (by rw [hfl]; omega)]
      clear h hfl
      go_enter Try.func73, Try.ntmps73
      go_wp2_with fail
      go_ret
      exact ⟨rfl, rfl⟩
    · have d2 : decide ((N : Int) ≤ n) = false := decide_eq_false h2
      obtain ⟨i, rfl⟩ := Int.eq_ofNat_of_zero_le (by omega : 0 ≤ n)
      have hi : i < N := by omega
      have d3 : decide (N ≤ i) = false := decide_eq_false (by omega)
      obtain ⟨bo, hr⟩ := h.row hi
      obtain ⟨d0, -, -⟩ := h.cell hr
      rw [Int.toNat_natCast]
      generalize (frAt (rFs R) i).owner = z at d0
      by_cases h3 : z = 0
      · subst h3
        rw [if_neg (by simp)]
        clear h hfl hr
        go_enter Try.func73, Try.ntmps73
        go_wp2_with fail
        go_ret
        exact ⟨rfl, rfl⟩
      · have d4 : (z == 0) = false := by simpa using h3
        rw [if_pos ⟨by omega, by rw [hfl]; omega, h3⟩]
        by_cases h4 : z = o
        · have d5 : (z != o) = false := by simpa using h4
          rw [if_pos h4]
          clear h hfl hr h4
          go_enter Try.func73, Try.ntmps73
          go_wp2_with fail
          go_ret
          exact ⟨rfl, rfl⟩
        · have d5 : (z != o) = true := by simpa using h4
          rw [if_neg h4]
          clear h hfl hr h4
          go_enter Try.func73, Try.ntmps73
          go_wp2_with fail
          go_ret
          exact ⟨rfl, rfl⟩

/-- A step of the reference's pool. -/
def RfGo (w w' : World) (base b lb N : Nat) (q : Int) (R : List RRow) (fs' : List Fr) : Prop :=
  ∃ R', RfAt w' base b lb N q R' ∧ rFs R' = fs' ∧ OnlyIn [lb] w w' ∧ ∀ k ∈ rOwn b lb R', k ∈ rOwn b lb R ∨ w.heap.size ≤ k
theorem RfAt.drew (h : RfAt w base b lb N q R) (n : Nat) : RfAt (w.drewN n) base b lb N q R := h.only (S := []) (by (repeat (first | (with_reducible assumption) | (with_reducible exact OnlyIn.refl _ _) | (with_reducible refine OnlyIn.setCell ?_ (by first | simp | (simp; omega)) _) | (with_reducible refine OnlyIn.drewN ?_ _) | (with_reducible refine OnlyIn.drew ?_) | (with_reducible refine OnlyIn.alloc ?_ _)))) (by simp)
theorem RfAt.stay (h : RfAt w base b lb N q R) : RfGo w w base b lb N q R (rFs R) := ⟨R, h, rfl, OnlyIn.refl _ _, fun _ hk => .inl hk⟩
/-- Owner and handles of a frame, written one behind the other. -/
theorem RfAt.put2 (h : RfAt w base b lb N q R) {i : Nat} (hi : i < N) (o x : Int) : RfGo w ((w.setCell ⟨lb, i * 3, none⟩ (.int .i64 o)).setCell ⟨lb, i * 3 + 1, none⟩ (.int .i64 x)) base b lb N q R ((rFs R).set i ⟨o, x, (frAt (rFs R) i).data⟩) := by
  obtain ⟨bo, hr⟩ := h.row hi
  have ht : OnlyIn [lb] w ((w.setCell ⟨lb, i * 3, none⟩ (.int .i64 o)).setCell ⟨lb, i * 3 + 1, none⟩ (.int .i64 x)) := ((OnlyIn.refl _ _).setCell (.inl (by simp)) _).setCell (.inl (by simp)) _
  have ha := (h.arr.set (i * 3) (.int .i64 o)).set (i * 3 + 1) (.int .i64 x)
  have hil : i < R.length := by rw [h.len]; exact hi
  have e1 := rset hr 0 (by omega) (.int .i64 o) (y := (⟨o, (frAt (rFs R) i).handles, (frAt (rFs R) i).data⟩, bo)) rfl
  rw [Nat.add_zero] at e1
  rw [e1, rset (i := i) (x := (⟨o, (frAt (rFs R) i).handles, (frAt (rFs R) i).data⟩, bo)) (List.getElem?_set_self hil) 1 (by omega) (.int .i64 x) (y := (⟨o, x, (frAt (rFs R) i).data⟩, bo)) rfl, List.set_set] at ha
  obtain ⟨h1, h2⟩ := h.put hr (f' := ⟨o, x, (frAt (rFs R) i).data⟩) rfl ht ha
  exact ⟨_, h1, rFs_set _ _ _, ht, fun k hk => .inl (h2 k hk)⟩
theorem RfAt.put1 (h : RfAt w base b lb N q R) {i : Nat} (hi : i < N) (x : Int) : RfGo w (w.setCell ⟨lb, i * 3 + 1, none⟩ (.int .i64 x)) base b lb N q R ((rFs R).set i ⟨(frAt (rFs R) i).owner, x, (frAt (rFs R) i).data⟩) := by
  obtain ⟨bo, hr⟩ := h.row hi
  have ht : OnlyIn [lb] w (w.setCell ⟨lb, i * 3 + 1, none⟩ (.int .i64 x)) := (OnlyIn.refl _ _).setCell (.inl (by simp)) _
  have ha := h.arr.set (i * 3 + 1) (.int .i64 x)
  rw [rset hr 1 (by omega) (.int .i64 x) (y := (⟨(frAt (rFs R) i).owner, x, (frAt (rFs R) i).data⟩, bo)) rfl] at ha
  obtain ⟨h1, h2⟩ := h.put hr (f' := ⟨(frAt (rFs R) i).owner, x, (frAt (rFs R) i).data⟩) rfl ht ha
  exact ⟨_, h1, rFs_set _ _ _, ht, fun k hk => .inl (h2 k hk)⟩

set_option maxRecDepth 100000 in
theorem ref_retain (h : RfAt w base b lb N q R) (hk : OkF (rFs R) H) (hH : H ≤ 1000000) (n o : Int) :
    Calls Try.prog 61 #[.pointer (some ⟨b, 0, none⟩), .int .i64 n, .int .i64 o] w fun e w' => e = .returned (.int .i64 (whyF (rFs R) n o)) ∧ RfGo w w' base b lb N q R (retF (rFs R) n o) := by
  have hre := ref_refuses h n o
  have c0 := h.blk.cell (i := 0) rfl
  obtain ⟨r, hr⟩ : ∃ r, whyF (rFs R) n o = r := ⟨_, rfl⟩
  unfold retF
  rw [hr] at hre ⊢
  by_cases h0 : r = 0
  · subst h0
    obtain ⟨i, rfl, hi, -, -⟩ := whyF_ok hr
    rw [if_pos rfl, Int.toNat_natCast]
    have hb := hk i hi
    rw [h.fl] at hi
    obtain ⟨bo, hrow⟩ := h.row hi
    obtain ⟨-, d1, -⟩ := h.cell hrow
    have f1 := h.arr.free (i * 3 + 1)
    have HG := Lib.hid (h.put1 hi ((frAt (rFs R) i).handles + 1))
    obtain ⟨z, hz⟩ : ∃ z, (frAt (rFs R) i).handles = z := ⟨_, rfl⟩
    rw [hz] at d1 hb
    have hw : IntKind.i64.wrap (z + 1) = (frAt (rFs R) i).handles + 1 := by rw [IntKind.wrap_i64, hz]; omega
    generalize (frAt (rFs R) i).handles + 1 = z2 at hw HG ⊢
    clear h hr hk hb hrow hz
    go_enter Try.func61, Try.ntmps61
    go_wp2_with (refine hre.mono ?_; rintro e w' ⟨rfl, rfl⟩)
    go_ret
    exact ⟨rfl, HG.out⟩
  · have d : (r == 0) = false := by simpa using h0
    rw [if_neg h0]
    have HS := Lib.hid h.stay
    clear h hr hk
    go_enter Try.func61, Try.ntmps61
    go_wp2_with (refine hre.mono ?_; rintro e w' ⟨rfl, rfl⟩)
    go_ret
    exact ⟨rfl, HS.out⟩
end
end Go.Proofs.Ytmbnmhcfafgnaaa
