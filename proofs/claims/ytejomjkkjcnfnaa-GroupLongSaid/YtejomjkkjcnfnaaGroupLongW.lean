/-
  Law 18: GroupLong: the walk.
-/
import Derived.Test.YtejomjkkjcnfnaaGroupBackW
namespace Go.Mine
open Go.RowKit
theorem headOf_no {q : Nat} {s : List UInt8} (hs : 32 < s.length) : headOf (q : Int) s = ([], 2) := by
  rw [headOf, if_neg (by omega)]
theorem head_cut (q : Nat) (s : List UInt8) (k : Nat) (hk : k = 5 + 9 * s.length) : (headBits q s).take k ++ [1] = bitsOf q 5 ++ (s.flatMap spareOne ++ [1]) := by
  have : headBits q s = (bitsOf q 5 ++ s.flatMap spareOne) ++ [0] := by rw [headBits, spareBits, List.append_assoc]
  rw [this, List.take_left' (by rw [List.length_append, bitsOf_length, flat9, hk]), List.append_assoc]
theorem u8_add (x : UInt8) (k : Nat) (hk : k < 256) : IntKind.u8.wrap ((x.toNat : Int) + (k : Int)) = (((x + UInt8.ofNat k).toNat : Nat) : Int) := by
  rw [IntKind.wrap_u8, UInt8.toNat_add, UInt8.toNat_ofNat_of_lt' (by simpa using hk)]
  omega
theorem str_extract (a : List UInt8) (n : Nat) : (str a).extract 0 n = str (a.take n) := by
  apply ByteArray.ext
  rw [ByteArray.data_extract]
  simp [str]
def upTo (x : UInt8) (k : Nat) : List UInt8 := (List.range k).map fun i => x + UInt8.ofNat i
theorem upTo_length (x : UInt8) (k : Nat) : (upTo x k).length = k := by simp [upTo]
theorem upTo_succ (x : UInt8) (k : Nat) : upTo x (k + 1) = upTo x k ++ [x + UInt8.ofNat k] := by simp [upTo, List.range_succ]
end Go.Mine
namespace Go.Proofs.Ytejomjkkjcnfnaa
open Go.RowKit Go.Mine

set_option maxRecDepth 100000 in
set_option maxHeartbeats 4000000 in
theorem GroupLong_walk {w : World} (q : Int) (hq : -9223372036854775808 ≤ q ∧ q ≤ 9223372036854775807) (x : UInt8) (_hx : True) (y : Value × List Int) (hy : Rd w 1 y.1 y.2.length (intCells y.2) ∧ (∀ z ∈ y.2, -9223372036854775808 ≤ z ∧ z ≤ 9223372036854775807) ∧ y.2.length ≤ maxLen) :
    Calls Try.prog 11 #[.int .i64 q, .int .u8 (x.toNat : Int), y.1] w fun e w' => e = .returned (.bool true) ∧ OnlyIn [] w w' := by
  obtain ⟨i0, hi0, hz0, hz1, hz2⟩ := info_parts Try.infoB
  obtain ⟨u, bh⟩ := y
  obtain ⟨hb, hbx, hbl⟩ := hy
  simp only at hb hbx hbl ⊢
  have hb' := hb
  obtain ⟨-, B, d, rfl, hd, -⟩ := hb'
  have p2 := fun w => Pick_any q 31 w (by omega) (by omega) hq.1 hq.2
  obtain ⟨q0, hq0⟩ := Int.eq_ofNat_of_zero_le (by omega : 0 ≤ q % 31)
  have hq1 : q0 < 31 := by omega
  rw [hq0] at p2
  have hwq : IntKind.i64.wrap (1 + (q0 : Int)) = 1 + (q0 : Int) := by rw [IntKind.wrap_i64]; omega
  clear hq0 hq _hx
  by_cases hlong : bh.length ≤ 20
  · have hdb : decide ((20 : Int) < (bh.length : Int)) = false := by simp; omega
    have HB := Lib.hid (And.intro hb hbx)
    clear hb hbx hbl
    go_enter Try.func11, Try.ntmps11
    go_wp2_with fail
    refine (awake_any18 _).mono ?_
    rintro e w1 ⟨rfl, t1⟩
    go_wp2_with fail
    refine (p2 _).mono ?_
    rintro e w' ⟨rfl, rfl⟩
    go_wp2_with fail
    go_loopw [8, 9] (fun s i wr => ∃ k : Nat, k ≤ 32 ∧ i = .int .i64 (k : Int) ∧ Sl wr w.heap.size 5 1 s k (byteCells (upTo x k)) ∧ OnlyIn [] w wr) (fun _ i _ => 32 - (intOf i).toNat)
    case atStart => exact ⟨0, by omega, rfl, Sl.nil _ _ _ _, t1⟩
    case round =>
      clear t1
      obtain ⟨k, hk, rfl, hs, hto⟩ := hrel
      obtain ⟨As, cs, rfl, hcs⟩ := hs.val
      have hbw : w.heap.size ≤ wr.heap.size := hto.size
      by_cases hlt : k < 32
      · have hwk : IntKind.u8.wrap (k : Int) = (k : Int) := by rw [IntKind.wrap_u8]; omega
        have hadd := u8_add x k (by omega)
        have hup := upTo_succ x k
        obtain ⟨z, hz⟩ : ∃ z, x + UInt8.ofNat k = z := ⟨_, rfl⟩
        rw [hz] at hadd hup
        have hs' := hs.alloc (.cells (byteCells [z]).toArray 5)
        have hrd := Rd.lit wr (byteCells [z]) 5 1 (size := 1) rfl
        have HU := Lib.hid hup
        clear hup hz hs
        go_wp2_with (at_builtin; refine wpList_append_sl rfl _ _ 28 rfl w.heap.size 5 i0 _ 1 1 Try.underlying28 hi0 hz0 hz1 hz2 rfl (by decide) (.slice As _ cs) _ _ rfl hs' _ 1 _ rfl hrd (byteCells_one _) (by simp only [maxLen]; omega) (by omega) (by simp; omega) ?_; intro v5 w5 hs5 hg5 hat5)
        go_roundw
        case rel =>
          refine ⟨k + 1, by omega, by go_num, ?_, (hto.alloc _).grown hg5 (fun g hg => .inr (hs'.own_lt g hg).1)⟩
          rw [HU.out, byteCells_append]
          exact hs5
        case measure => simp [intOf]; try omega
      · obtain rfl : k = 32 := by omega
        have hL := upTo_length x 32
        obtain ⟨L, hLe⟩ : ∃ L, upTo x 32 = L := ⟨_, rfl⟩
        rw [hLe] at hs hL
        clear hLe
        have hrL : Rd wr 1 (.slice As 32 cs) L.length (byteCells L) := by rw [hL]; exact Rd.of_sl hs
        have eP := headOf_ok (q := q0 + 1) (s := L) (by omega) (by omega) (by omega)
        have eN := headOf_no (q := q0 + 1) (s := L ++ [x]) (by simp; omega)
        rw [show ((q0 + 1 : Nat) : Int) = 1 + (q0 : Int) by omega] at eP eN
        have hP := fun w v h => gPut_any w (1 + (q0 : Int)) v L h (by omega)
        have hN := fun w v h => gPut_any w (1 + (q0 : Int)) v (L ++ [x]) h (by simp; omega)
        rw [eP] at hP
        rw [eN] at hN
        unfold TextErr at hP hN
        have hbH := headBits_bin (q0 + 1) L
        have hlH := headBits_length (q0 + 1) L
        rw [hL] at hlH
        have gP : getAll (pack (List.replicate 0 0 ++ headBits (q0 + 1) L ++ odds bh)) 0 = (q0 + 1, L, 294, 0) := by
          rw [getAll, if_neg (by omega)]
          have := getN_put (BitsAt.pack (((bin_zeros 0).append hbH).append (odds_bin bh))) (by omega) (by omega) (by omega)
          rw [hL] at this
          exact this
        have hcut := head_cut (q0 + 1) L 293 (by omega)
        have hbM : Bin ((headBits (q0 + 1) L).take 293 ++ [1]) := Bin.append (fun z hz => hbH z (List.mem_of_mem_take hz)) (Bin.one (by omega))
        have gN : getAll (pack (List.replicate 0 0 ++ ((headBits (q0 + 1) L).take 293 ++ [1]) ++ odds bh)) 0 = (0, [], 0, 4) := by
          rw [getAll, if_neg (by omega)]
          refine getN_over (q := q0 + 1) (l := L) ?_ (by omega) (by omega) hL
          have := BitsAt.pack (((bin_zeros 0).append hbM).append (odds_bin bh))
          rw [hcut] at this ⊢
          exact this
        have hlM : ((headBits (q0 + 1) L).take 293 ++ [1]).length = 294 := by rw [List.length_append, List.length_take, hlH]; rfl
        have htM : txt ((headBits (q0 + 1) L).take 293 ++ [1]) = (txt (headBits (q0 + 1) L)).take 293 ++ [49] := by rw [txt_append, txt, txt, List.map_take]; rfl
        generalize headBits (q0 + 1) L = H at hP hbH hlH gP gN hbM hlM htM
        generalize H.take 293 ++ [1] = M at gN hbM hlM htM
        have b1 := fun w => bits18_any w H hbH (by omega)
        have y1 := fun w h => bytes18_any w 0 H hbH (by omega) (by omega) (.slice B bh.length d) bh h HB.out.2 (by omega)
        have y2 := fun w h => bytes18_any w 0 M hbM (by omega) (by omega) (.slice B bh.length d) bh h HB.out.2 (by omega)
        have hpl1 := pack_length (List.replicate 0 0 ++ H ++ odds bh)
        have hpl2 := pack_length (List.replicate 0 0 ++ M ++ odds bh)
        simp only [List.length_append, List.length_replicate, odds_length] at hpl1 hpl2
        generalize pack (List.replicate 0 0 ++ H ++ odds bh) = X1 at gP y1 hpl1
        generalize pack (List.replicate 0 0 ++ M ++ odds bh) = X2 at gN y2 hpl2
        have hx1 : X1.length ≤ 1000000000 := by omega
        have hx2 : X2.length ≤ 1000000000 := by omega
        have hs294 : ((str (txt H)).size : Int) = 294 := by rw [str_size, txt_length]; omega
        have HG := Lib.hid (And.intro gP gN)
        have HT := Lib.hid (And.intro htM (And.intro hlH hlM))
        have hmore : (str (txt H)).extract 0 293 ++ { data := #[49] } = str (txt M) := by rw [str_extract, htM, ← str_append]; rfl
        clear hpl1 hpl2 hbH hbM hlH hlM gP gN eP eN hcut htM
        have HL := Lib.hid hL
        clear hL
        go_wp2_with fail
        refine (hP _ _ hrL).mono ?_
        rintro e w' ⟨rfl, rfl⟩
        go_wp2_with fail
        refine (CopyBytes_any _ _ L hrL (by have := HL.out; omega)).mono ?_
        rintro e w2 ⟨u2, rfl, h2, t2⟩
        obtain ⟨A2, c2, rfl, hc2⟩ := h2.val
        have h2' := h2.alloc (.cells (byteCells [x]).toArray 5)
        have hrd := Rd.lit w2 (byteCells [x]) 5 1 (size := 1) rfl
        have hbw2 : w.heap.size ≤ w2.heap.size := Nat.le_trans hbw t2.size
        go_wp2_with (at_builtin; refine wpList_append_sl rfl _ _ 28 rfl wr.heap.size 5 i0 _ 1 1 Try.underlying28 hi0 hz0 hz1 hz2 rfl (by decide) _ _ _ rfl h2' _ 1 _ rfl hrd (byteCells_one _) (by have := HL.out; simp only [maxLen]; omega) (by have := HL.out; omega) (by have := t2.size; simp; omega) ?_; intro v5 w5 hs5 hg5 hat5; rw [← byteCells_append, show L.length + 1 = (L ++ [x]).length by simp] at hs5)
        have o2 := (hto.trans t2).alloc (.cells (byteCells [x]).toArray 5)
        have hO5 : OnlyIn [] w w5 := o2.grown hg5 (fun g hg => .inr (Nat.le_trans hbw (h2'.own_lt g hg).1))
        have hrL5 : Rd w5 1 (.slice As 32 cs) L.length (byteCells L) := hrL.cells fun p u hp => ((t2.alloc _).grown hg5 (fun g hg => .inr (h2'.own_lt g hg).1)).cell hp (by simp)
        have hr5 := Rd.of_sl hs5
        clear o2 h2 t2 h2' hrd hs5 hg5 hat5 hto hs hrL
        go_wp2_with fail
        refine (hN _ _ hr5).mono ?_
        rintro e w' ⟨rfl, rfl⟩
        go_wp2_with fail
        refine (b1 _).mono ?_
        rintro e w' ⟨rfl, rfl⟩
        go_wp2_with fail
        refine (y1 _ (HB.out.1.cells fun p u hp => hO5.cell hp (by simp))).mono ?_
        rintro e w6 ⟨u6, rfl, h6, t6⟩
        have hO6 := hO5.trans t6
        clear hO5
        go_wp2_with fail
        refine (gets_yes18 _ _ X1 h6 hx1 _ L (hrL5.cells fun p u hp => t6.cell hp (by simp)) _ _ _ (by rw [HG.out.1]; refine ⟨?_, rfl, ?_, rfl⟩ <;> simp only <;> push_cast <;> omega)).mono ?_
        rintro e w7 ⟨rfl, t7⟩
        have hO7 := hO6.trans t7
        clear hO6 h6 t6 t7
        go_wp2_with fail
        refine (y2 _ (HB.out.1.cells fun p u hp => hO7.cell hp (by simp))).mono ?_
        rintro e w8 ⟨u8, rfl, h8, t8⟩
        have hO8 := hO7.trans t8
        clear hO7 t8
        go_wp2_with fail
        refine (gets_yes18 _ _ X2 h8 hx2 _ [] (Rd.nil _ _) _ _ _ (by rw [HG.out.2]; exact ⟨rfl, rfl, rfl, rfl⟩)).mono ?_
        rintro e w9 ⟨rfl, t9⟩
        have hO9 := hO8.trans t9
        clear hO8 h8 t9
        go_wp2_with fail
        go_ret
        exact ⟨rfl, hO9⟩
  · have hdb : decide ((20 : Int) < (bh.length : Int)) = true := by simp; omega
    clear hb hbx hbl
    go_enter Try.func11, Try.ntmps11
    go_wp2_with fail
    refine (awake_any18 _).mono ?_
    rintro e w1 ⟨rfl, t1⟩
    go_wp2_with fail
    refine (p2 _).mono ?_
    rintro e w' ⟨rfl, rfl⟩
    go_wp2_with fail
    go_ret
    exact ⟨rfl, t1⟩
end Go.Proofs.Ytejomjkkjcnfnaa
