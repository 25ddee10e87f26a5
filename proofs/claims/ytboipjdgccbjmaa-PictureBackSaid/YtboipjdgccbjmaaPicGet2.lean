/-
  Package picture: Get; the reference's Get.
-/
import Derived.Test.YtboipjdgccbjmaaPicGet
import Derived.Test.YtboipjdgccbjmaaRef01
namespace Go.Proofs.Ytboipjdgccbjmaa
open Go.RowKit Go.Mine

set_option maxRecDepth 100000 in
theorem pGet_neg (w : World) (v : Value) (i : Int) (hi : i < 0) : Calls Try.prog 22 #[v, .int .i64 i] w fun e w' => PicEnd w w' 5 (0, 0, [], 0, 3) e := by
  have hd : decide (i < 0) = true := by simp [hi]
  go_enter Try.func22, Try.ntmps22
  go_wp2_with fail
  generalize hw5 : World.alloc _ _ = w5
  obtain ⟨hO, hsz⟩ := (Keep.start [] w).more1 hw5
  clear hw5
  exact bodyPost_ret (results_cell_tmp2 rfl _ rfl (loadHead (hO.blk 0 rfl))) rfl ⟨_, rfl, Sl.nil _ _ _ _, hO.only⟩
set_option maxRecDepth 100000 in
theorem pGet_any (w : World) (v : Value) (bs : List UInt8) (hr : Rd w 1 v bs.length (byteCells bs)) (hl : bs.length ≤ 1000000000) (i : Int) (hi : i ≤ 9223372036854775807) :
    Calls Try.prog 22 #[v, .int .i64 i] w fun e w' => PicEnd w w' 5 (picAll bs i) e := by
  unfold picAll
  by_cases h : i < 0
  · rw [if_pos h]; exact pGet_neg w v i h
  · rw [if_neg h]
    obtain ⟨i, rfl⟩ := Int.eq_ofNat_of_zero_le (by omega : 0 ≤ i)
    exact pGet_nonneg w v bs hr hl i (by omega)

theorem numAt_add (bs : List UInt8) (i m n : Nat) : numAt bs i (m + n) = numAt bs i m * 2 ^ n + numAt bs (i + m) n := by
  induction n with
  | zero => simp [numAt]
  | succ n ih =>
    rw [← Nat.add_assoc, numAt, numAt, ih, Nat.pow_succ, ← Nat.add_assoc]
    generalize numAt bs i m = x
    generalize numAt bs (i + m) n = y
    generalize 2 ^ n = q
    rw [show x * (q * 2) = 2 * (x * q) by rw [Nat.mul_comm q 2, Nat.mul_left_comm]]
    omega

set_option maxRecDepth 100000 in
set_option maxHeartbeats 1000000 in
theorem rGet_any (w : World) (v : Value) (bs : List UInt8) (hr : Rd w 1 v bs.length (byteCells bs)) (hl : bs.length ≤ 1000000000) (i : Int) (hi : i ≤ 9223372036854775807) :
    Calls Try.prog 23 #[v, .int .i64 i] w fun e w' => PicEnd w w' 5 (picAll bs i) e := by
  have hr' := hr
  obtain ⟨-, A, c, rfl, hc, -⟩ := hr'
  unfold picAll
  by_cases h0 : i < 0
  · rw [if_pos h0]
    have hd : decide (i < 0) = true := by simp [h0]
    clear hr
    go_enter Try.func23, Try.ntmps23
    go_wp2_with fail
    generalize hw5 : World.alloc _ _ = w5
    obtain ⟨hO, hsz⟩ := (Keep.start [] w).more1 hw5
    exact bodyPost_ret (results_cell_tmp2 rfl _ rfl (loadHead (hO.blk 0 rfl))) rfl ⟨_, rfl, Sl.nil _ _ _ _, hO.only⟩
  rw [if_neg h0]
  obtain ⟨i, rfl⟩ := Int.eq_ofNat_of_zero_le (by omega : 0 ≤ i)
  rw [Int.toNat_natCast]
  have hcn := fun W => rCount_any W A bs.length c hl
  have hrd := fun W h => rRead_all W (.slice A bs.length c) bs h hl (i : Int) 11 (by omega)
  by_cases hbig : 8 * bs.length < i
  · have hpn : picN bs i = (0, 0, [], 0, 5) := by rw [picN, if_pos (by omega)]
    have hd : (8 : Int) * (bs.length : Int) < (i : Int) := by omega
    rw [hpn]
    clear hr hpn hrd
    go_enter Try.func23, Try.ntmps23
    go_wp2_with (go_at_call 57; refine (hcn _).mono ?_; rintro e w' ⟨rfl, rfl⟩)
    generalize hw5 : World.alloc _ _ = w5
    obtain ⟨hO, hsz⟩ := (Keep.start [] w).more1 hw5
    exact bodyPost_ret (results_cell_tmp2 rfl _ rfl (loadHead (hO.blk 0 rfl))) rfl ⟨_, rfl, Sl.nil _ _ _ _, hO.only⟩
  have hnd : ¬ (8 : Int) * (bs.length : Int) < (i : Int) := by omega
  by_cases hm : 8 * bs.length < i + 11
  · have hpn : picN bs i = (0, 0, [], 0, 5) := by rw [picN, if_pos (by omega)]
    have hro : readOf bs (i : Int) 11 = (0, 5) := by rw [readOf, if_neg (by omega), if_pos (by omega)]
    rw [hro] at hrd
    rw [hpn]
    have HR := Lib.hid hr
    clear hr hpn hro
    go_enter Try.func23, Try.ntmps23
    go_wp2_with fail
    refine (hcn _).mono ?_
    rintro e w' ⟨rfl, rfl⟩
    go_wp2_with fail
    generalize hw5 : World.alloc _ _ = w5
    obtain ⟨hO, hsz⟩ := (Keep.start [] w).more1 hw5
    refine (hrd _ (HR.out.cells fun p u hp => hO.only.cell hp (by simp))).mono ?_
    rintro e w6 ⟨rfl, t6⟩
    have hO6 := hO.only0 t6
    have r0 := hO6.cell 0 0 rfl rfl
    have r1 := hO6.cell 0 1 rfl rfl
    have r2 := hO6.cell 0 2 rfl rfl
    have f0 := hO6.free 0 0 rfl
    have f1 := hO6.free 0 1 rfl
    have f2 := hO6.free 0 2 rfl
    have HO := Lib.hid hO6
    clear hO hO6 t6 hw5 hsz
    go_wp2_with fail
    have hS := ((HO.out.set 0 0 rfl (.int .i64 0)).set 0 1 rfl (.int .i64 0)).set 0 2 rfl (.slice none 0 0)
    exact bodyPost_ret (results_cell_tmp2 rfl _ rfl (loadHead (hS.blk 0 rfl))) rfl ⟨_, rfl, Sl.nil _ _ _ _, hS.only⟩
  have hro : readOf bs (i : Int) 11 = ((numAt bs i 11 : Int), 0) := readOf_ok (n := 11) (by omega) (by omega)
  rw [hro] at hrd
  have hsp := fun W h => rSpares_any W (.slice A bs.length c) bs h hl (i + 11) (by omega)
  unfold SpEnd at hsp
  have h11 := numAt_add bs i 5 6
  have hx5 := numAt_lt bs i 5
  have hx6 := numAt_lt bs (i + 5) 6
  rw [show ((i + 11 : Nat) : Int) = (i : Int) + 11 by omega] at hsp
  obtain ⟨x, hx⟩ : ∃ x, numAt bs i 11 = x := ⟨_, rfl⟩
  obtain ⟨y5, hy5⟩ : ∃ x, numAt bs i 5 = x := ⟨_, rfl⟩
  obtain ⟨y6, hy6⟩ : ∃ x, numAt bs (i + 5) 6 = x := ⟨_, rfl⟩
  have hpn : picN bs i = if (sparesOf bs (i + 11)).1 = 0 then (y5, y6, (sparesOf bs (i + 11)).2.1, 11 + (sparesOf bs (i + 11)).2.2, 0) else (0, 0, [], 0, (sparesOf bs (i + 11)).1) := by
    rw [picN, if_neg hm, hy5, hy6]
  have hb := fun h => sparesOf_bound (bs := bs) (p := i + 11) h
  rw [hpn]
  obtain ⟨⟨er, l, m⟩, hS⟩ : ∃ r, sparesOf bs (i + 11) = r := ⟨_, rfl⟩
  rw [hS] at hsp hb ⊢
  simp only at hsp hb ⊢
  rw [show (5 + 6 : Nat) = 11 from rfl, hx, hy5, hy6] at h11
  rw [hy5] at hx5
  rw [hy6] at hx6
  rw [hx] at hrd
  have hdv : (x : Int).tdiv 64 = (y5 : Int) := by rw [Int.tdiv_eq_ediv_of_nonneg (by omega)]; omega
  have hmd : (x : Int).tmod 64 = (y6 : Int) := by rw [Int.tmod_eq_emod_of_nonneg (by omega)]; omega
  have hdv2 : (x : Int) / 64 = (y5 : Int) := by omega
  have hmd2 : (x : Int) % 64 = (y6 : Int) := by omega
  have HR := Lib.hid hr
  clear hr hro hpn hS hx hy5 hy6 h11
  by_cases he : er = 0
  · subst he
    rw [if_pos rfl]
    have hbn : m ≤ 400 := by have := hb rfl; omega
    clear hb
    go_enter Try.func23, Try.ntmps23
    go_wp2_with fail
    refine (hcn _).mono ?_
    rintro e w' ⟨rfl, rfl⟩
    go_wp2_with fail
    generalize hw5 : World.alloc _ _ = w5
    obtain ⟨hO, hsz⟩ := (Keep.start [] w).more1 hw5
    clear hw5 hsz
    refine (hrd _ (HR.out.cells fun p u hp => hO.only.cell hp (by simp))).mono ?_
    rintro e w6 ⟨rfl, t6⟩
    have hO6 := hO.only0 t6
    clear hO t6
    go_wp2_with fail
    refine (hsp _ (HR.out.cells fun p u hp => hO6.only.cell hp (by simp))).mono ?_
    rintro e w7 ⟨u, rfl, hs7, t7⟩
    have hO7 := hO6.only0 t7
    have hb7 := hO6.only.size
    have r0 := hO7.cell 0 0 rfl rfl
    have r1 := hO7.cell 0 1 rfl rfl
    have r2 := hO7.cell 0 2 rfl rfl
    have f0 := hO7.free 0 0 rfl
    have f1 := hO7.free 0 1 rfl
    have f2 := hO7.free 0 2 rfl
    obtain ⟨Au, cu, rfl, hcu⟩ := hs7.val
    have HO := Lib.hid (And.intro hO7 (hs7.mono hb7))
    clear hO7 hO6 t7 hs7
    go_wp2_with fail
    obtain ⟨hO7, hs7⟩ := HO.out
    have hfar := hO7.far hs7 (by simp) w.heap.size (by simp)
    have hS := ((hO7.set 0 0 rfl (.int .i64 (y5 : Int))).set 0 1 rfl (.int .i64 (y6 : Int))).set 0 2 rfl (.slice Au l.length cu)
    have hs := ((hs7.setCell (p := ⟨w.heap.size, 0, none⟩) hfar (.int .i64 (y5 : Int))).setCell (p := ⟨w.heap.size, 1, none⟩) hfar (.int .i64 (y6 : Int))).setCell (p := ⟨w.heap.size, 2, none⟩) hfar (.slice Au l.length cu)
    exact bodyPost_ret (results_cell_tmp2 rfl _ rfl (loadHead (hS.blk 0 rfl))) rfl ⟨_, by push_cast; rfl, hs, hS.only⟩
  · rw [if_neg he]
    have hd : (er == 0) = false := by simp [he]
    go_enter Try.func23, Try.ntmps23
    go_wp2_with fail
    refine (hcn _).mono ?_
    rintro e w' ⟨rfl, rfl⟩
    go_wp2_with fail
    generalize hw5 : World.alloc _ _ = w5
    obtain ⟨hO, hsz⟩ := (Keep.start [] w).more1 hw5
    clear hw5 hsz
    refine (hrd _ (HR.out.cells fun p u hp => hO.only.cell hp (by simp))).mono ?_
    rintro e w6 ⟨rfl, t6⟩
    have hO6 := hO.only0 t6
    clear hO t6
    go_wp2_with fail
    refine (hsp _ (HR.out.cells fun p u hp => hO6.only.cell hp (by simp))).mono ?_
    rintro e w7 ⟨u, rfl, hs7, t7⟩
    have hO7 := hO6.only0 t7
    have r0 := hO7.cell 0 0 rfl rfl
    have r1 := hO7.cell 0 1 rfl rfl
    have r2 := hO7.cell 0 2 rfl rfl
    have f0 := hO7.free 0 0 rfl
    have f1 := hO7.free 0 1 rfl
    have f2 := hO7.free 0 2 rfl
    have HO := Lib.hid hO7
    clear hO7 hO6 t7 hs7
    go_wp2_with fail
    have hS := ((HO.out.set 0 0 rfl (.int .i64 0)).set 0 1 rfl (.int .i64 0)).set 0 2 rfl (.slice none 0 0)
    exact bodyPost_ret (results_cell_tmp2 rfl _ rfl (loadHead (hS.blk 0 rfl))) rfl ⟨_, rfl, Sl.nil _ _ _ _, hS.only⟩
end Go.Proofs.Ytboipjdgccbjmaa
