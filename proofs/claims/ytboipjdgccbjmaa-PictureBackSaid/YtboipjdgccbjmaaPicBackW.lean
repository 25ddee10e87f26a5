/-
  Law 17: PictureBack: the walk.
-/
import Derived.Test.YtboipjdgccbjmaaPicAgainW
import Derived.Test.YtboipjdgccbjmaaOpenHead
namespace Go.Mine
open Go.RowKit
theorem is01_txt {l : List Nat} (h : Bin l) : Is01 (txt l) := fun c hc => by
  obtain ⟨x, hx, rfl⟩ := List.mem_map.1 hc
  have := h x hx
  rcases (by omega : x = 0 ∨ x = 1) with rfl | rfl
  · exact .inl rfl
  · exact .inr rfl
theorem digs_txt {l : List Nat} (h : Bin l) : digs (txt l) = l := by
  induction l with
  | nil => rfl
  | cons a l ih =>
    have h1 := ih (fun x hx => h x (List.mem_cons_of_mem _ hx))
    have h2 := h a (List.mem_cons_self ..)
    rw [txt, List.map_cons, digs, List.map_cons]
    rw [txt, digs] at h1
    rw [h1]
    congr 1
    rw [UInt8.toNat_ofNat_of_lt' (show 48 + a < 2 ^ 8 by omega)]
    omega
def bytesBits (s : List UInt8) : List Nat := s.flatMap fun b => bitsOf b.toNat 8
theorem bytesBits_take {s : List UInt8} {k : Nat} (hk : k < s.length) : bytesBits (s.take (k + 1)) = bytesBits (s.take k) ++ bitsOf (s[k]'hk).toNat 8 := by
  unfold bytesBits
  rw [List.take_succ_eq_append_getElem hk, List.flatMap_append]; simp
theorem bytesBits_length (s : List UInt8) : (bytesBits s).length = 8 * s.length := by
  induction s with
  | nil => rfl
  | cons a s ih => rw [bytesBits, List.flatMap_cons, List.length_append, bitsOf_length]; rw [bytesBits] at ih; rw [ih, List.length_cons]; omega
theorem bytesBits_bin (s : List UInt8) : Bin (bytesBits s) := fun x hx => by
  obtain ⟨a, -, h⟩ := List.mem_flatMap.1 hx
  exact bitsOf_bin _ _ x h
theorem ones_bin (k : Nat) : Bin (List.replicate k 1) := fun x hx => by have := List.eq_of_mem_replicate hx; omega
theorem bitAt_take17 {bs : List UInt8} {k i : Nat} (h : i < 8 * (bs.take k).length) : bitAt (bs.take k) i = bitAt bs i := by
  have hl : i / 8 < (bs.take k).length := by omega
  have hk : i / 8 < k := by rw [List.length_take] at hl; omega
  unfold bitAt shAt
  rw [List.getD_eq_getElem?_getD, List.getD_eq_getElem?_getD, List.getElem?_take, if_pos hk]
end Go.Mine
namespace Go.Proofs.Ytboipjdgccbjmaa
open Go.RowKit Go.Mine

/-- A pen of the call's own. -/
theorem pen_on {w w1 w2 : World} {b : Nat} {v : Value} {l : List Nat} (hP : PenAt w1 (b + 1) b v l) (hb : w.heap.size ≤ b) (ho : OnlyIn [] w w1) (t : OnlyIn (b :: v.ownBlock.toList) w1 w2) : OnlyIn [] w w2 :=
  ho.then t fun j hj => by
    simp only [List.mem_cons, Option.mem_toList] at hj
    rcases hj with hj | hj
    · exact .inr (by omega)
    · have := (hP.sl.own_lt j hj).1
      exact .inr (by omega)

set_option maxRecDepth 100000 in
set_option maxHeartbeats 8000000 in
theorem PictureBack_walk {w : World} (x : HeadIn) (hx : x.ok w) (i : Int) (hi : -9223372036854775808 ≤ i ∧ i ≤ 9223372036854775807) (y : Value × List UInt8) (hy : Rd w 1 y.1 y.2.length (byteCells y.2) ∧ y.2.length ≤ maxLen) :
    Calls Try.prog 7 #[.agg #[.int .i64 x.t, .int .i64 x.y, x.v], .int .i64 i, y.1] w fun e w' => e = .returned (.bool true) ∧ OnlyIn [] w w' := by
  obtain ⟨t, yy, v, s⟩ := x
  obtain ⟨vb, bh⟩ := y
  obtain ⟨-, -, hr, hml⟩ := hx
  obtain ⟨hrb, hmb⟩ := hy
  simp only at hr hml hrb hmb ⊢
  have hr' := hr
  obtain ⟨-, A, c, rfl, hc, -⟩ := hr'
  have hrb' := hrb
  obtain ⟨-, Ab, cb, rfl, hcb, -⟩ := hrb'
  have hpk := fun w => Pick_any i 41 w (by omega) (by omega) hi.1 hi.2
  obtain ⟨a0, ha0⟩ := Int.eq_ofNat_of_zero_le (by omega : 0 ≤ i % 41)
  have ha1 : a0 < 41 := by omega
  rw [ha0] at hpk
  clear ha0 hi
  by_cases hlong : s.length ≤ 40 ∧ bh.length ≤ 20
  · obtain ⟨hl, hl2⟩ := hlong
    have hd : decide ((40 : Int) < (s.length : Int)) = false := by simp; omega
    have hd2 : decide ((20 : Int) < (bh.length : Int)) = false := by simp; omega
    have HR := Lib.hid (And.intro hr hrb)
    clear hr hrb hml hmb
    go_enter Try.func7, Try.ntmps7
    go_wp2_with fail
    generalize hw1 : World.alloc _ _ = w1
    have hO := ((Keep.start [] w).more1 hw1).1
    have hB := hO.blk 0 rfl
    have o1 := hO.only
    clear hO hw1
    generalize hge : w.heap.size = g at hB ⊢
    refine (known_any17 _).mono ?_
    rintro e w2 ⟨rfl, t2⟩
    have hB2 := hB.only t2 (by simp)
    have o2 := o1.trans t2
    clear hB t2 o1
    go_wp2_with fail
    refine (NewPen_any w2).mono ?_
    rintro e w3 ⟨rfl, hP, t3⟩
    have hB3 := hB2.only t3 (by simp)
    have o3 := o2.trans t3
    have hbw : w.heap.size ≤ w2.heap.size := o2.size
    have hgb : ¬ g = w2.heap.size := by have := hB2.lt; omega
    have hbl := hP.blk.lt
    clear hB2 o2 t3
    generalize w2.heap.size = b at hP hbw hgb hbl ⊢
    have k2 := hB3.cell (i := 2) rfl
    go_wp2_with fail
    refine (hpk _).mono ?_
    rintro e w' ⟨rfl, rfl⟩
    clear hpk
    go_wp2_with fail
    have HB3 := Lib.hid (And.intro hB3 (And.intro hP o3))
    clear hB3 hP o3 k2
    go_loopw [9] (fun i wr => ∃ (k : Nat) (v' : Value), k ≤ a0 ∧ i = .int .i64 (k : Int) ∧ Blk wr g 24 [.int .i64 t, .int .i64 yy, .slice A s.length c] ∧ PenAt wr (b + 1) b v' (List.replicate k 1) ∧ OnlyIn [] w wr ∧ b + 1 ≤ wr.heap.size) (fun i _ => a0 - (intOf i).toNat)
    case atStart => exact ⟨0, _, by omega, rfl, HB3.out.1, HB3.out.2.1, HB3.out.2.2, by omega⟩
    case round =>
      clear HB3 hbl
      obtain ⟨k, v', hk, rfl, hBr, hP, hto, hsz⟩ := hrel
      by_cases hlt : k < a0
      · have hput := Put_ok wr hP 1 1 (by omega) (by decide) (by simp; omega) hsz
        rw [show ((1 : Nat) : Int) = 1 from rfl] at hput
        have hne := hP.notin
        have hgo : ∀ g', v'.ownBlock = some g' → g' ≠ g := fun g' hg' he => hP.sl.ne_blk hBr (by decide) (by rw [hg', he])
        have HH := Lib.hid (And.intro hBr (And.intro hP hto))
        have hmeas : a0 - (k + 1) < a0 - k := by omega
        have hk1 : k + 1 ≤ a0 := by omega
        clear hBr hP hto
        go_wp2_with fail
        refine hput.mono ?_
        rintro e w4 ⟨rfl, v4, hP4, t4, hv4⟩
        obtain ⟨hBr, hP, hto⟩ := HH.out
        have hB4 := hBr.only t4 (by
          simp only [List.mem_cons, Option.mem_toList]
          rintro (h | h)
          · exact hgb h
          · exact hgo _ h rfl)
        have o4 := pen_on hP hbw hto t4
        have hz4 : b + 1 ≤ w4.heap.size := Nat.le_trans hsz t4.size
        have hP4' : PenAt w4 (b + 1) b v4 (List.replicate (k + 1) 1) := by rw [List.replicate_succ']; exact hP4
        have HF := Lib.hid (And.intro hB4 (And.intro hP4' (And.intro o4 hz4)))
        clear hput hBr hP hto hP4 t4 hv4 hB4 o4 hz4 hP4' hgo HH
        go_wp2_with fail
        go_roundw
        case rel => exact ⟨k + 1, v4, hk1, by go_num, HF.out⟩
        case measure => simp [intOf]; exact hmeas
      · have hka : k = a0 := by omega
        subst hka
        have k0 := hBr.cell (i := 0) rfl
        have k1 := hBr.cell (i := 1) rfl
        have k2 := hBr.cell (i := 2) rfl
        have hp := pPut_any wr t yy (.slice A s.length c) s (HR.out.1.cells fun p u hp => hto.cell hp (by simp))
        by_cases hok : HeadOk t yy s.length
        · rw [putOf, if_pos hok] at hp
          unfold TxtErr at hp
          obtain ⟨h1, h2, h3, h4, h5⟩ := hok
          obtain ⟨t, rfl⟩ := Int.eq_ofNat_of_zero_le h1
          obtain ⟨yy, rfl⟩ := Int.eq_ofNat_of_zero_le h3
          simp only [Int.toNat_natCast] at hp
          have ht31 : t ≤ 31 := by omega
          have hy63 : yy ≤ 63 := by omega
          have hbH := picBits_bin t yy s
          have hlH := picBits_length t yy s
          have hbL : Bin (List.replicate k 1 ++ picBits t yy s ++ bytesBits bh) := ((ones_bin k).append hbH).append (bytesBits_bin bh)
          have hlL : (List.replicate k 1 ++ picBits t yy s ++ bytesBits bh).length = k + (12 + 9 * s.length) + 8 * bh.length := by rw [List.length_append, List.length_append, List.length_replicate, hlH, bytesBits_length]
          obtain ⟨m, hm⟩ : ∃ m, (k + (12 + 9 * s.length) - 1) / 8 = m := ⟨_, rfl⟩
          have hBA := BitsAt.pack hbL
          rw [List.length_replicate] at hBA
          have gp : picAll (pack (List.replicate k 1 ++ picBits t yy s ++ bytesBits bh)) (k : Int) = (t, yy, s, 12 + 9 * s.length, 0) := by
            rw [picAll, if_neg (by omega), Int.toNat_natCast]
            exact picN_put hBA ht31 hy63 h5
          have gq : picAll ((pack (List.replicate k 1 ++ picBits t yy s ++ bytesBits bh)).take m) (k : Int) = (0, 0, [], 0, 5) := by
            rw [picAll, if_neg (by omega), Int.toNat_natCast]
            exact picN_short (fun j hj => bitAt_take17 hj) hBA h5 (by rw [List.length_take]; omega)
          have hpl := pack_length (List.replicate k 1 ++ picBits t yy s ++ bytesBits bh)
          rw [hlL] at hpl
          have hmp : m ≤ (pack (List.replicate k 1 ++ picBits t yy s ++ bytesBits bh)).length := by rw [hpl]; omega
          have hi01 := is01_txt hbH
          have hdg := digs_txt hbH
          generalize hH : picBits t yy s = H at hp hbH hlH hbL hlL gp gq hpl hmp hi01 hdg
          clear hBA
          have hz1 : ((str (txt H)).size : Int) = 12 + 9 * (s.length : Int) := by rw [str_size, txt_length]; omega
          have htl : (txt H).length = 12 + 9 * s.length := by rw [txt_length]; exact hlH
          have hn32 : ¬ (32 : Int) < (s.length : Int) := by omega
          have HG := Lib.hid (And.intro gp (And.intro gq (And.intro hdg hlL)))
          have HH := Lib.hid (And.intro hBr (And.intro hP hto))
          obtain ⟨T, hT⟩ : ∃ T, txt H = T := ⟨_, rfl⟩
          rw [hT] at hp hi01 hz1 htl
          have HT := Lib.hid hT
          clear hBr hP hto gp gq hdg hT hlL h1 h2 h3 h4
          go_wp2_with fail
          refine hp.mono ?_
          rintro e w4 ⟨rfl, t4⟩
          obtain ⟨hBr, hP, hto⟩ := HH.out
          have hB4 := hBr.only t4 (by simp)
          have hP4 := hP.only0 t4
          have o4 := hto.trans t4
          have hz4 : b + 1 ≤ w4.heap.size := Nat.le_trans hsz t4.size
          have hcode := Code_ok w4 hP4 T hi01 (by simp; omega) hz4
          have hgo : ∀ g', v'.ownBlock = some g' → g' ≠ g := fun g' hg' he => hP.sl.ne_blk hBr (by decide) (by rw [hg', he])
          have HH4 := Lib.hid (And.intro hB4 (And.intro hP4 o4))
          clear hp hBr hP hto hB4 hP4 o4 t4 HH k0 k1 k2
          go_wp2_with fail
          refine hcode.mono ?_
          rintro e w5 ⟨rfl, v5, hP5, t5, hv5⟩
          obtain ⟨hB4, hP4, o4⟩ := HH4.out
          have hB5 := hB4.only t5 (by
            simp only [List.mem_cons, Option.mem_toList]
            rintro (h | h)
            · exact hgb h
            · exact hgo _ h rfl)
          have o5 := pen_on hP4 hbw o4 t5
          have hz5 : b + 1 ≤ w5.heap.size := Nat.le_trans hz4 t5.size
          have hP5 : PenAt w5 (b + 1) b v5 (List.replicate k 1 ++ H) := by rw [← HT.out, HG.out.2.2.1] at hP5; exact hP5
          have hlen := Len_any w5 hP5
          have hl0 : (List.replicate k 1 ++ H).length = k + (12 + 9 * s.length) := by simp [hlH]
          rw [hl0] at hlen
          have k2 := hB5.cell (i := 2) rfl
          obtain ⟨z, hz⟩ : ∃ z : Nat, k + (12 + 9 * s.length) = z := ⟨_, rfl⟩
          rw [hz] at hlen
          have hdv : ((z : Int) - 1).tdiv 8 = (m : Int) := by rw [Int.tdiv_eq_ediv_of_nonneg (by omega)]; omega
          have hdv2 : ((z : Int) - 1) / 8 = (m : Int) := by omega
          have HH5 := Lib.hid (And.intro hB5 (And.intro hP5 o5))
          have HZ := Lib.hid hz
          have hz12 : 12 ≤ z := by omega
          have hzs : z ≤ 1000 := by omega
          have hmz : m ≤ 1000 := by omega
          clear hcode hB4 hP4 o4 hP5 t5 hv5 hB5 o5 hgo HH4 hl0 hm hz
          go_wp2_with fail
          refine hlen.mono ?_
          rintro e w' ⟨rfl, rfl⟩
          clear hlen
          go_wp2_with fail
          go_loopw [13] (fun i wr => ∃ (j : Nat) (v' : Value), j ≤ bh.length ∧ i = .int .i64 (j : Int) ∧ Blk wr g 24 [.int .i64 (t : Int), .int .i64 (yy : Int), .slice A s.length c] ∧ PenAt wr (b + 1) b v' (List.replicate k 1 ++ H ++ bytesBits (bh.take j)) ∧ OnlyIn [] w wr ∧ b + 1 ≤ wr.heap.size) (fun i _ => bh.length - (intOf i).toNat)
          case atStart => exact ⟨0, v5, by omega, rfl, HH5.out.1, by simpa [bytesBits] using HH5.out.2.1, HH5.out.2.2, hz5⟩
          case round =>
            clear HH5 hz5 k2
            obtain ⟨j, v6, hj, rfl, hB6, hP6, hto6, hsz6⟩ := hrel
            by_cases hjl : j < bh.length
            · obtain ⟨gb, offb, capb, hvb, q0⟩ := Rd.atB HR.out.2 hjl
              injection hvb with hvb _ hccb
              subst hvb hccb
              have q1 := hto6.cell q0 (by simp)
              obtain ⟨xb, hxb⟩ : ∃ xb, bh[j]'hjl = xb := ⟨_, rfl⟩
              have hstep := bytesBits_take hjl
              rw [hxb] at q1 hstep
              have hx8 : xb.toNat < 256 := UInt8.toNat_lt xb
              have hput := Put_ok _ hP6 xb.toNat 8 (by omega) (by omega) (by have := hP6.small; simp [bytesBits_length, hlH]; omega) hsz6
              rw [show ((8 : Nat) : Int) = 8 from rfl] at hput
              obtain ⟨n8, hn8⟩ : ∃ n8, xb.toNat = n8 := ⟨_, rfl⟩
              rw [hn8] at q1 hput hx8
              have hw1 : IntKind.i64.wrap (n8 : Int) = (n8 : Int) := by rw [IntKind.wrap_i64]; omega
              have hgo : ∀ g', v6.ownBlock = some g' → g' ≠ g := fun g' hg' he => hP6.sl.ne_blk hB6 (by decide) (by rw [hg', he])
              have HH6 := Lib.hid (And.intro hB6 (And.intro hP6 (And.intro hto6 (And.intro hstep hn8))))
              have hmeas : bh.length - (j + 1) < bh.length - j := by omega
              have hj1 : j + 1 ≤ bh.length := by omega
              clear hB6 hP6 hto6 q0 hxb hstep hn8
              go_wp2_with fail
              refine hput.mono ?_
              rintro e w7 ⟨rfl, v7, hP7, t7, hv7⟩
              obtain ⟨hB6, hP6, hto6, hstep, hn8⟩ := HH6.out
              have hB7 := hB6.only t7 (by
                simp only [List.mem_cons, Option.mem_toList]
                rintro (h | h)
                · exact hgb h
                · exact hgo _ h rfl)
              have o7 := pen_on hP6 hbw hto6 t7
              have hz7 : b + 1 ≤ w7.heap.size := Nat.le_trans hsz6 t7.size
              have hP7' : PenAt w7 (b + 1) b v7 (List.replicate k 1 ++ H ++ bytesBits (bh.take (j + 1))) := by rw [hstep, hn8, ← List.append_assoc]; exact hP7
              have HF := Lib.hid (And.intro hB7 (And.intro hP7' (And.intro o7 hz7)))
              clear hput hB6 hP6 hto6 hP7 t7 hv7 hB7 o7 hz7 hP7' hgo HH6 hstep hn8
              go_wp2_with fail
              go_roundw
              case rel => exact ⟨j + 1, v7, hj1, by go_num, HF.out⟩
              case measure => simp [intOf]; exact hmeas
            · have hjb : j = bh.length := by omega
              subst hjb
              rw [List.take_of_length_le (Nat.le_refl _)] at hP6
              have hby := Bytes_any _ hP6
              have HH6 := Lib.hid (And.intro hB6 (And.intro hP6 hto6))
              obtain ⟨gp, gq, -, -⟩ := HG.out
              obtain ⟨X, hX⟩ : ∃ X, pack (List.replicate k 1 ++ H ++ bytesBits bh) = X := ⟨_, rfl⟩
              rw [hX] at gp gq hby hpl hmp
              have hXl : X.length ≤ 1000000 := by omega
              have HG2 := Lib.hid (And.intro gp gq)
              clear hB6 hP6 hto6 hX gp gq HG HT hpl
              go_wp2_with fail
              refine hby.mono ?_
              rintro e w7 ⟨u, rfl, hu, t7⟩
              obtain ⟨hB6, hP6, hto6⟩ := HH6.out
              have hB7 := hB6.only t7 (by simp)
              have o7 := hto6.trans t7
              have k0 := hB7.cell (i := 0) rfl
              have k1 := hB7.cell (i := 1) rfl
              have k2 := hB7.cell (i := 2) rfl
              obtain ⟨Au, cu, rfl, hcu⟩ := hu.val
              have hg1 := gets17_yes w7 (.slice Au X.length cu) X (Rd.of_sl hu) (by omega) (k : Int) (by omega) (t : Int) (yy : Int) (.slice A s.length c) s (HR.out.1.cells fun p u hp => o7.cell hp (by simp)) (12 + 9 * (s.length : Int)) 0 (by rw [HG2.out.1]; refine ⟨rfl, rfl, rfl, ?_, rfl⟩; push_cast; rfl)
              have hg2 := fun W (hW : OnlyIn [] w7 W) => gets17_yes W (.slice Au m cu) (X.take m) (by
                have := Rd.take ((Rd.of_sl hu).cells (w' := W) fun p u hp => hW.cell hp (by simp)) hmp (by omega)
                rw [List.length_take, Nat.min_eq_left hmp]
                exact this) (by rw [List.length_take]; omega) (k : Int) (by omega) 0 0 (.slice none 0 0) [] (Rd.nil _ _) 0 5 (by rw [HG2.out.2]; exact ⟨rfl, rfl, rfl, rfl, rfl⟩)
              clear hby hB6 hP6 hto6 hB7 t7 hu HH6 HG2
              have hmn : min (m : Int) (X.length : Int) = (m : Int) := by omega
              have hmn2 : (if (X.length : Int) < (m : Int) then (X.length : Int) else (m : Int)) = (m : Int) := by split <;> omega
              have hmc : m ≤ cu := by omega
              go_wp2_with fail
              refine hg1.mono ?_
              rintro e w8 ⟨rfl, t8⟩
              have o8 := o7.trans t8
              have hg3 := hg2 w8 t8
              clear hg1 hg2 k0 k1 k2 t8
              by_cases hcut : (m : Int) * 8 < (k : Int)
              · go_wp2_with fail
                go_ret
                exact ⟨rfl, o8⟩
              · go_wp2_with fail
                refine hg3.mono ?_
                rintro e w9 ⟨rfl, t9⟩
                clear hg3
                go_wp2_with fail
                go_ret
                exact ⟨rfl, o8.trans t9⟩
        · rw [putOf, if_neg hok] at hp
          unfold TxtErr at hp
          rw [show str (([], 2) : List UInt8 × Int).1 = ⟨#[]⟩ from rfl] at hp
          simp only at hp
          have HH := Lib.hid (And.intro hBr hto)
          clear hBr hP hto
          go_wp2_with fail
          refine hp.mono ?_
          rintro e w4 ⟨rfl, t4⟩
          obtain ⟨hBr, hto⟩ := HH.out
          have hB4 := hBr.only t4 (by simp)
          have k0 := hB4.cell (i := 0) rfl
          have k1 := hB4.cell (i := 1) rfl
          have k2 := hB4.cell (i := 2) rfl
          have o4 := hto.trans t4
          have hck := pCheck_any w4 t yy A s.length c
          rw [checkOf, if_neg hok] at hck
          clear hp hBr hto hB4 t4 hok
          go_wp2_with fail
          refine hck.mono ?_
          rintro e w5 ⟨rfl, t5⟩
          clear hck
          go_wp2_with fail
          go_ret
          exact ⟨rfl, o4.trans t5⟩
  · have hdec : (40 : Int) < (s.length : Int) ∨ (20 : Int) < (bh.length : Int) := by omega
    clear hr hrb hml hmb
    by_cases hs : (40 : Int) < (s.length : Int)
    · have hd : decide ((40 : Int) < (s.length : Int)) = true := by simp; omega
      clear hdec hlong
      go_enter Try.func7, Try.ntmps7
      go_wp2_with fail
      generalize hw1 : World.alloc _ _ = w1
      have hO := ((Keep.start [] w).more1 hw1).1
      clear hw1
      refine (known_any17 _).mono ?_
      rintro e w2 ⟨rfl, t2⟩
      have hO2 := hO.only0 t2
      go_wp2_with fail
      refine (NewPen_any w2).mono ?_
      rintro e w3 ⟨rfl, -, t3⟩
      have hO3 := hO2.only0 t3
      have k2 := hO3.cell 0 2 rfl rfl
      clear hO hO2 t2 t3
      go_wp2_with fail
      go_ret
      exact ⟨rfl, hO3.only⟩
    · have hd : decide ((40 : Int) < (s.length : Int)) = false := by simp; omega
      have hd2 : decide ((20 : Int) < (bh.length : Int)) = true := by simp; omega
      clear hdec hlong
      go_enter Try.func7, Try.ntmps7
      go_wp2_with fail
      generalize hw1 : World.alloc _ _ = w1
      have hO := ((Keep.start [] w).more1 hw1).1
      clear hw1
      refine (known_any17 _).mono ?_
      rintro e w2 ⟨rfl, t2⟩
      have hO2 := hO.only0 t2
      go_wp2_with fail
      refine (NewPen_any w2).mono ?_
      rintro e w3 ⟨rfl, -, t3⟩
      have hO3 := hO2.only0 t3
      have k2 := hO3.cell 0 2 rfl rfl
      clear hO hO2 t2 t3
      go_wp2_with fail
      go_ret
      exact ⟨rfl, hO3.only⟩
end Go.Proofs.Ytboipjdgccbjmaa
