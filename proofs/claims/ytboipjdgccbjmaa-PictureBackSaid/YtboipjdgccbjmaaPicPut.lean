/-
  Package picture and its reference: Put.
-/
import Derived.Test.YtboipjdgccbjmaaPic
import Derived.Test.YtboipjdgccbjmaaInv
namespace Go.Mine
open Go.RowKit
/-- The bits of a picture's header. -/
def picBits (t y : Nat) (s : List UInt8) : List Nat := bitsOf t 5 ++ bitsOf y 6 ++ spareBits s
theorem picBits_length (t y : Nat) (s : List UInt8) : (picBits t y s).length = 12 + 9 * s.length := by
  rw [picBits, List.length_append, List.length_append, bitsOf_length, bitsOf_length, spareBits_length]; omega
def putOf (t y : Int) (s : List UInt8) : List UInt8 × Int := if HeadOk t y s.length then (txt (picBits t.toNat y.toNat s), 0) else ([], 2)
/-- A text and an error. -/
def TxtErr (x : List UInt8 × Int) (e : Ending) : Prop := e = .returned (.tuple #[.string (str x.1), .int .i64 x.2])
end Go.Mine
namespace Go.Proofs.Ytboipjdgccbjmaa
open Go.RowKit Go.Mine

set_option maxRecDepth 100000 in
theorem pdigitsI (w : World) (n : Nat) (k : Int) (hn : n < 4294967296) (hk1 : 1 ≤ k) (hk : k ≤ 64) :
    Calls Try.prog 52 #[.int .i64 (n : Int), .int .i64 k] w fun e w' => e = .returned (.string (str (txt (bitsOf n k.toNat)))) ∧ OnlyIn [] w w' := by
  obtain ⟨k, rfl⟩ := Int.eq_ofNat_of_zero_le (by omega : 0 ≤ k)
  exact pdigits_any w n k hn (by omega) (by omega)
set_option maxRecDepth 100000 in
theorem rdigitsI (w : World) (n : Nat) (k : Int) (hn : n < 4294967296) (hk1 : 1 ≤ k) (hk : k ≤ 64) :
    Calls Try.prog 53 #[.int .i64 (n : Int), .int .i64 k] w fun e w' => e = .returned (.string (str (txt (bitsOf n k.toNat)))) ∧ OnlyIn [] w w' := by
  obtain ⟨k, rfl⟩ := Int.eq_ofNat_of_zero_le (by omega : 0 ≤ k)
  exact rdigits_any w n k hn (by omega)
set_option maxRecDepth 100000 in
set_option maxHeartbeats 1000000 in
theorem pPut_any (w : World) (t y : Int) (v : Value) (bs : List UInt8) (hr : Rd w 1 v bs.length (byteCells bs)) :
    Calls Try.prog 15 #[.agg #[.int .i64 t, .int .i64 y, v]] w fun e w' => TxtErr (putOf t y bs) e ∧ OnlyIn [] w w' := by
  have hr' := hr
  obtain ⟨-, A, c, rfl, hc, -⟩ := hr'
  have hchk := fun w => pCheck_any w t y A bs.length c
  unfold TxtErr
  by_cases hok : HeadOk t y bs.length
  · rw [checkOf, if_pos hok] at hchk
    rw [putOf, if_pos hok]
    obtain ⟨h1, h2, h3, h4, h5⟩ := hok
    obtain ⟨t, rfl⟩ := Int.eq_ofNat_of_zero_le h1
    obtain ⟨y, rfl⟩ := Int.eq_ofNat_of_zero_le h3
    simp only [Int.toNat_natCast]
    have ht31 : t ≤ 31 := by omega
    have hy63 : y ≤ 63 := by omega
    have hpb : picBits t y bs = (bitsOf t 5 ++ bitsOf y 6) ++ spareBits bs := rfl
    have hadd := fun w => run_add_str (P := Try.prog) w (txt (bitsOf t 5)) (txt (bitsOf y 6)) (by rw [txt_length, txt_length, bitsOf_length, bitsOf_length]; omega)
    rw [← txt_append] at hadd
    have hlp : (txt (bitsOf t 5 ++ bitsOf y 6)).length = 11 := by rw [txt_length, List.length_append, bitsOf_length, bitsOf_length]
    obtain ⟨p, hp⟩ : ∃ p, txt (bitsOf t 5 ++ bitsOf y 6) = p := ⟨_, rfl⟩
    rw [hp] at hadd hlp
    have HR := Lib.hid (And.intro hr (And.intro hpb hp))
    clear hr hpb hp h1 h2 h3 h4
    go_enter Try.func15, Try.ntmps15
    go_wp2_with fail
    have hB := Blk.new w 24 [.int .i64 (t : Int), .int .i64 (y : Int), .slice A bs.length c]
    have o1 : OnlyIn [] w (w.alloc (.cells #[.int .i64 (t : Int), .int .i64 (y : Int), .slice A bs.length c] 24)) := (OnlyIn.refl _ _).alloc _
    refine (hchk _).mono ?_
    rintro e w1 ⟨rfl, ht1⟩
    have hB1 := hB.only ht1 (by simp)
    have o2 := o1.trans ht1
    clear hB o1 ht1
    have k0 := hB1.cell (i := 0) rfl
    have k1 := hB1.cell (i := 1) rfl
    have k2 := hB1.cell (i := 2) rfl
    generalize w.heap.size = g at hB1 k0 k1 k2 ⊢
    go_wp2_with fail
    (refine Go.Mine.wp_region_inv (Go.Mine.OnlyIn [] _) (by kernel_rfl) (by kernel_rfl) ((Go.Mine.OnlyIn.refl _ _).drew) ?_; (repeat (first | (refine Go.Mine.wpInv_run _ (by first | rfl | go_simp) (fun W hW => by (have c0 := hW.cell k0 (by simp); have c1 := hW.cell k1 (by simp); go_simp; first | exact ⟨rfl, hW⟩ | exact rfl | (simp only [Go.Mine.Oper.invUpon]; exact (pdigitsI W _ _ (by omega) (by decide) (by decide)).mono (fun e w'' h => ⟨h.1, hW.trans h.2⟩)))) ?_; go_simp) | (refine Go.Mine.wpInv_skip (by first | rfl | go_simp) ?_; go_simp))); refine Go.Mine.wpInv_nil ?_; intro W hW; have c0 := hW.cell k0 (by simp); have c1 := hW.cell k1 (by simp))
    have o3 := o2.trans hW
    have hB3 := hB1.only hW (by simp)
    have k2 := hB3.cell (i := 2) rfl
    clear o2 hB1 hB3 c0 c1 hW k0 k1 hadd
    go_wp2_with fail
    go_loopw [5, 7, 23] (fun o _ i wr => ∃ k : Nat, k ≤ bs.length ∧ i = .int .i64 (k : Int) ∧ o = .string (str (p ++ txt ((bs.take k).flatMap spareOne))) ∧ OnlyIn [] w wr) (fun _ _ i _ => bs.length - (intOf i).toNat)
    case atStart => exact ⟨0, by omega, rfl, by simp [txt], o3⟩
    case round =>
      clear o3 k2
      obtain ⟨k, hk, rfl, rfl, hto⟩ := hrel
      by_cases hlt : k < bs.length
      · obtain ⟨g', off, cap, hv, q0⟩ := Rd.atB HR.out.1 hlt
        injection hv with hv _ hcc
        subst hv hcc
        have q1 := hto.cell q0 (by simp)
        have hst := spares_take hlt
        obtain ⟨x, hx⟩ : ∃ x, bs[k]'hlt = x := ⟨_, rfl⟩
        obtain ⟨q, hq⟩ : ∃ q, p ++ txt ((bs.take k).flatMap spareOne) = q := ⟨_, rfl⟩
        have hql : q.length ≤ 10000 := by rw [← hq, List.length_append, txt_length, flat9, List.length_take]; omega
        have hx8 : x.toNat < 256 := UInt8.toNat_lt x
        rw [hx] at q1
        obtain ⟨n8, hn8⟩ : ∃ n8, x.toNat = n8 := ⟨_, rfl⟩
        rw [hn8] at q1 hx8
        have hq2 : p ++ txt ((bs.take (k + 1)).flatMap spareOne) = q ++ (49 :: txt (bitsOf n8 8)) := by rw [hst, hx, txt_append, ← List.append_assoc, hq]; rw [← hn8]; rfl
        have d8 := fun w => pdigits_any w n8 8 (by omega) (by omega) (by omega)
        have ha := fun w => run_add_str (P := Try.prog) w [49] (txt (bitsOf n8 8)) (by rw [txt_length, bitsOf_length]; simp)
        have hb := fun w => run_add_str (P := Try.prog) w q (49 :: txt (bitsOf n8 8)) (by rw [List.length_cons, txt_length, bitsOf_length]; omega)
        have ha' : ∀ w, (Op.stringOp .add ⟨#[49]⟩ (str (txt (bitsOf n8 8)))).run Try.prog w = .ok (.string (str (49 :: txt (bitsOf n8 8)))) w := ha
        rw [hq]
        have hmeas : bs.length - (k + 1) < bs.length - k := by omega
        have hk1 : k + 1 ≤ bs.length := by omega
        have hw1 : IntKind.i64.wrap (n8 : Int) = (n8 : Int) := by rw [IntKind.wrap_i64]; omega
        obtain ⟨r, hr⟩ : ∃ r, 49 :: txt (bitsOf n8 8) = r := ⟨_, rfl⟩
        rw [hr] at hq2 hb ha'
        obtain ⟨r2, hr2⟩ : ∃ r2, q ++ r = r2 := ⟨_, rfl⟩
        rw [hr2] at hb hq2
        have HQ := Lib.hid (And.intro hq2 hto)
        clear hr hr2 hst hq hq2 hx hn8 ha q0 hto
        go_wp2_with (go_at_call 52; refine (d8 _).mono ?_; rintro e w1 ⟨rfl, ht1⟩)
        go_roundw
        case rel =>
          obtain ⟨hq2, hto⟩ := HQ.out
          exact ⟨k + 1, hk1, by go_num, by rw [hq2], hto.trans ht1⟩
        case measure => simp [intOf]; exact hmeas
      · obtain rfl : k = bs.length := by omega
        rw [List.take_of_length_le (Nat.le_refl _)]
        obtain ⟨q, hq⟩ : ∃ q, p ++ txt (bs.flatMap spareOne) = q := ⟨_, rfl⟩
        have hql : q.length ≤ 10000 := by rw [← hq, List.length_append, txt_length, flat9]; omega
        have ha := fun w => run_add_str (P := Try.prog) w q [48] (by simp; omega)
        have ha' : ∀ w, (Op.stringOp .add (str q) ⟨#[48]⟩).run Try.prog w = .ok (.string (str (q ++ [48]))) w := ha
        have hfin : txt (picBits t y bs) = q ++ [48] := by
          rw [HR.out.2.1, txt_append, HR.out.2.2, spareBits, txt_append, ← List.append_assoc, hq]; rfl
        obtain ⟨q2, hq2⟩ : ∃ q2, q ++ [48] = q2 := ⟨_, rfl⟩
        rw [hq2] at hfin ha'
        rw [hq]
        have HF := Lib.hid hfin
        clear hq hq2 ha hfin
        go_wp2_with fail
        go_ret2
        exact ⟨by rw [HF.out]; rfl, hto⟩
  · rw [checkOf, if_neg hok] at hchk
    rw [putOf, if_neg hok]
    clear hr hok
    go_enter Try.func15, Try.ntmps15
    go_wp2_with (go_at_call 17; refine (hchk _).mono ?_; rintro e w1 ⟨rfl, ht1⟩)
    go_ret2
    exact ⟨rfl, ((OnlyIn.refl _ _).alloc _).trans ht1⟩

set_option maxRecDepth 100000 in
set_option maxHeartbeats 1000000 in
theorem rPut_any (w : World) (t y : Int) (v : Value) (bs : List UInt8) (hr : Rd w 1 v bs.length (byteCells bs)) :
    Calls Try.prog 16 #[.agg #[.int .i64 t, .int .i64 y, v]] w fun e w' => TxtErr (putOf t y bs) e ∧ OnlyIn [] w w' := by
  have hr' := hr
  obtain ⟨-, A, c, rfl, hc, -⟩ := hr'
  have hchk := fun w => rCheck_any w t y A bs.length c
  unfold TxtErr
  by_cases hok : HeadOk t y bs.length
  · rw [checkOf, if_pos hok] at hchk
    rw [putOf, if_pos hok]
    obtain ⟨h1, h2, h3, h4, h5⟩ := hok
    obtain ⟨t, rfl⟩ := Int.eq_ofNat_of_zero_le h1
    obtain ⟨y, rfl⟩ := Int.eq_ofNat_of_zero_le h3
    simp only [Int.toNat_natCast]
    have ht31 : t ≤ 31 := by omega
    have hy63 : y ≤ 63 := by omega
    have hadd := fun w => run_add_str (P := Try.prog) w (txt (bitsOf t 5)) (txt (bitsOf y 6)) (by rw [txt_length, txt_length, bitsOf_length, bitsOf_length]; omega)
    have hadd2 := fun w => run_add_str (P := Try.prog) w (txt (bitsOf t 5 ++ bitsOf y 6)) (txt (spareBits bs)) (by rw [txt_length, txt_length, List.length_append, bitsOf_length, bitsOf_length, spareBits_length]; omega)
    rw [← txt_append] at hadd
    rw [← txt_append] at hadd2
    have hpb : picBits t y bs = (bitsOf t 5 ++ bitsOf y 6) ++ spareBits bs := rfl
    rw [← hpb] at hadd2
    have HR := Lib.hid hr
    clear hr hpb h1 h2 h3 h4
    go_enter Try.func16, Try.ntmps16
    go_wp2_with fail
    have hB := Blk.new w 24 [.int .i64 (t : Int), .int .i64 (y : Int), .slice A bs.length c]
    have o1 : OnlyIn [] w (w.alloc (.cells #[.int .i64 (t : Int), .int .i64 (y : Int), .slice A bs.length c] 24)) := (OnlyIn.refl _ _).alloc _
    refine (hchk _).mono ?_
    rintro e w1 ⟨rfl, ht1⟩
    have hB1 := hB.only ht1 (by simp)
    have o2 := o1.trans ht1
    clear hB o1 ht1
    have k0 := hB1.cell (i := 0) rfl
    have k1 := hB1.cell (i := 1) rfl
    have k2 := hB1.cell (i := 2) rfl
    have hrd : ∀ W, OnlyIn [] w1 W → Rd W 1 (.slice A bs.length c) bs.length (byteCells bs) := fun W hW => HR.out.cells fun p u hp => (o2.trans hW).cell hp (by simp)
    generalize w.heap.size = g at hB1 k0 k1 k2 ⊢
    go_wp2_with fail
    (refine Go.Mine.wp_region_inv (Go.Mine.OnlyIn [] _) (by kernel_rfl) (by kernel_rfl) ((Go.Mine.OnlyIn.refl _ _).drew) ?_; (repeat (first | (refine Go.Mine.wpInv_run _ (by first | rfl | go_simp) (fun W hW => by (have c0 := hW.cell k0 (by simp); have c1 := hW.cell k1 (by simp); have c2 := hW.cell k2 (by simp); go_simp; first | exact ⟨rfl, hW⟩ | exact rfl | (simp only [Go.Mine.Oper.invUpon]; first | (go_at_call 53; exact (rdigitsI W _ _ (by omega) (by decide) (by decide)).mono (fun e w'' h => ⟨h.1, hW.trans h.2⟩)) | (go_at_call 54; exact (rspare_any W _ bs (hrd W hW) (by omega)).mono (fun e w'' h => ⟨h.1, hW.trans h.2⟩))))) ?_; go_simp) | (refine Go.Mine.wpInv_skip (by first | rfl | go_simp) ?_; go_simp))); refine Go.Mine.wpInv_nil ?_; intro W hW; have c0 := hW.cell k0 (by simp); have c1 := hW.cell k1 (by simp); have c2 := hW.cell k2 (by simp))
    have o3 := o2.trans hW
    clear o2 hB1 c0 c1 c2 hW k0 k1 k2 hadd hadd2
    go_wp2_with fail
    go_ret2
    exact ⟨rfl, o3⟩
  · rw [checkOf, if_neg hok] at hchk
    rw [putOf, if_neg hok]
    clear hr hok
    go_enter Try.func16, Try.ntmps16
    go_wp2_with (go_at_call 18; refine (hchk _).mono ?_; rintro e w1 ⟨rfl, ht1⟩)
    go_ret2
    exact ⟨rfl, ((OnlyIn.refl _ _).alloc _).trans ht1⟩
end Go.Proofs.Ytboipjdgccbjmaa
