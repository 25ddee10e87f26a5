/-
  Law 01: BitsBack: the walk.
-/
import Derived.Test.YtejomjkkjcnfnaaBack01
namespace Go.Proofs.Ytejomjkkjcnfnaa
open Go.RowKit Go.Mine

set_option maxRecDepth 100000 in
set_option maxHeartbeats 1000000 in
theorem Back_walk {w : World} (x : Value × List Act01) (hx : Rd w 4 x.1 x.2.length (x.2.flatMap Act01.cells) ∧ (∀ a ∈ x.2, a.ok) ∧ x.2.length ≤ maxLen) :
    Calls Try.prog 6 #[x.1] w fun e w' => e = .returned (.bool true) ∧ OnlyIn [] w w' := by
  obtain ⟨vl, l⟩ := x
  obtain ⟨hr, hok, hml⟩ := hx
  simp only at hr hok hml ⊢
  obtain ⟨i0, hi0, hz0, hz1, hz2⟩ := info_parts Try.infoAct01
  go_enter Try.func6, Try.ntmps6
  go_wp2_with fail
  refine (known_any w).mono ?_
  rintro e w1 ⟨rfl, ht1⟩
  go_wp2_with fail
  refine (NewPen_any w1).mono ?_
  rintro e w2 ⟨rfl, hP, ht2⟩
  have hto := ht1.trans ht2
  have hbw : w.heap.size ≤ w1.heap.size := ht1.size
  generalize w1.heap.size = b at *
  clear ht1 ht2
  have hr2 := hr.cells (w' := w2) fun p u hp => hto.cell hp (by simp)
  by_cases hsm : Small01 l
  · have hlong := Long_no w2 vl l hr2 hsm
    obtain ⟨A, c, rfl⟩ : ∃ A c, vl = .slice A l.length c := by
      obtain ⟨-, A, c, rfl, -⟩ := hr
      exact ⟨A, c, rfl⟩
    have h60 := hsm.1
    have HS := Lib.hid (And.intro hsm.2 (And.intro hok hr))
    clear hsm hok hr hr2 hml
    go_wp2_with (go_at_call 15; refine hlong.mono ?_; rintro e w3 ⟨rfl, rfl⟩)
    clear hlong
    go_loopw [5, 6] (backAt w b l) (fun _ i _ => l.length - (intOf i).toNat)
    case atStart => exact ⟨0, _, by omega, rfl, hP, hto, Sl.nil _ _ _ _⟩
    case round =>
      clear hP hto
      obtain ⟨k, v, hk, rfl, hP, hto, hs⟩ := hrel
      by_cases hlt : k < l.length
      · have hrr := HS.out.2.2.cells (w' := wr) fun p u hp => hto.cell hp (by simp)
        obtain ⟨g, off, c', hv, q0, q1, q2, q3⟩ := act_cells hrr hlt
        injection hv with hv _ hcc
        subst hv hcc
        have hLk : (allBits (l.take k)).length ≤ 100 * k := by
          have := allBits_len (l := l.take k) (fun a ha => HS.out.1 a (List.mem_of_mem_take ha))
          simp at this; omega
        have hbase : b + 1 ≤ wr.heap.size := hP.blk.lt
        have hsl : (l[k]'hlt).s.length ≤ 100 := HS.out.1 _ (List.getElem_mem hlt)
        have hak := HS.out.2.1 _ (List.getElem_mem hlt)
        have hmx : w.heap.size ≤ wr.heap.size := hto.size
        have hgw : g < w.heap.size ∨ True := .inr trivial
        obtain ⟨a, hak2⟩ : ∃ a, l[k]'hlt = a := ⟨_, rfl⟩
        rw [hak2] at q0 q1 q2 q3 hsl hak
        rcases hac : a.codes with _ | _
        · rw [hac] at q0
          by_cases hin : 0 ≤ a.b ∧ a.b ≤ 32 ∧ 0 ≤ a.n ∧ a.n < 2 ^ a.b.toNat
          · have hyes : actBits (l[k]'hlt) = some (bitsOf a.n.toNat a.b.toNat) := by rw [hak2]; simp only [actBits, hac, Bool.false_eq_true, if_false]; rw [if_pos hin]
            obtain ⟨nn, hnn⟩ := Int.eq_ofNat_of_zero_le hin.2.2.1
            obtain ⟨bb, hbb⟩ := Int.eq_ofNat_of_zero_le hin.1
            have hlt2 : nn < 2 ^ bb := by have := hin.2.2.2; rw [hnn, hbb] at this; simp at this; exact_mod_cast this
            have hput := Put_ok wr.drew (hP.drewN 1) nn bb (by omega) hlt2 (by omega) hbase
            have hyes2 : actBits (l[k]'hlt) = some (bitsOf nn bb) := by rw [hyes, hnn, hbb]; simp
            rw [← hnn, ← hbb] at hput
            have HH := Lib.hid (And.intro hyes2 (And.intro hP (And.intro hto hs)))
            obtain ⟨Ak, ck, rfl, hck⟩ := hs.val
            clear hP hto hs hyes hyes2 hak hrr hin hnn hbb hlt2
            go_wp2_with fail
            (refine Go.Mine.wp_region_tail 11 (by kernel_rfl) (by kernel_rfl) ?_; simp only [List.take_succ_cons, List.take_zero, List.drop_succ_cons, List.drop_zero]; (repeat (refine Go.wpStill_step (fun K hK => ?_); go_simp; first | (refine hK _ ?_; clear hK K) | (apply Exists.intro; refine ⟨?_, hK _ ?_⟩; (fail); clear hK K))); refine Go.wpStill_nil ?_)
            go_wp2_with fail
            refine hput.mono ?_
            rintro e w4 ⟨rfl, v4, hP4, ht4, _⟩
            obtain ⟨hyes, hP, hto, hs⟩ := HH.out
            obtain ⟨hto4, hs4⟩ := back_pen hbw (hP.drewN 1) (hto.drewN 1) (hs.drewN 1) hP4 ht4
            have hrr4 := HS.out.2.2.cells (w' := w4) fun p u hp => hto4.cell hp (by simp)
            obtain ⟨g4, off4, c4, hv4, p0, p1, p2, p3⟩ := act_cells hrr4 hlt
            injection hv4 with hv4 _ hcc4
            injection hv4 with hv4
            injection hv4 with hvg hvo
            subst hvg hvo hcc4
            rw [hak2] at p0 p1 p2 p3
            have hfm : ((l.take k).filter actOk).length ≤ 60 := by
              have h1 := List.length_filter_le actOk (l.take k)
              simp at h1; omega
            have hbs4 : w.heap.size ≤ w4.heap.size := hto4.size
            rw [hac] at p0
            have HA := Lib.hid (And.intro hyes (And.intro hP4 (And.intro hto4 hs4)))
            have hs4' := hs4.alloc (.cells #[.bool a.codes, .int .i64 a.n, .int .i64 a.b, .string (str a.s)] 23)
            rw [hac] at hs4'
            have hrd4 := Rd.lit w4 [.bool false, .int .i64 a.n, .int .i64 a.b, .string (str a.s)] 23 1 (size := 4) rfl
            clear hyes hP4 hto4 hs4 hP hto hs ht4 hrr4 HH q0 q1 q2 q3
            go_wp2_with (at_builtin; refine wpList_append_sl rfl _ _ 25 rfl w.heap.size 23 i0 _ 4 40 Try.underlying25 hi0 hz0 hz1 hz2 rfl (by decide) (.slice Ak _ ck) _ _ rfl hs4' _ 1 _ rfl hrd4 (by simp [Value.oneCell']) (by simp only [maxLen]; omega) (by omega) (by simp; omega) ?_; intro v5 w5 hs5 hg5 hat5)
            have HR := Lib.hid (back_app (C := .cells #[.bool false, .int .i64 a.n, .int .i64 a.b, .string (str a.s)] 23) hlt HA.out.1 HA.out.2.1 HA.out.2.2.1 HA.out.2.2.2 (by rw [hak2]; simp only [Act01.cells, hac]; exact hs5) hg5)
            clear hs5 hg5 hat5 hs4' hrd4
            go_wp2_with fail
            go_roundw
            case rel => exact HR.out
            case measure => simp [intOf]; omega
          · have hno : actBits (l[k]'hlt) = none := by rw [hak2]; simp only [actBits, hac, Bool.false_eq_true, if_false]; rw [if_neg hin]
            have hput := Put_range wr.drew (hP.drewN 1) a.n a.b (by
              by_cases h1 : a.b < 0
              · exact .inl h1
              · by_cases h2 : 32 < a.b
                · exact .inr (.inl h2)
                · by_cases h3 : a.n < 0
                  · exact .inr (.inr (.inl h3))
                  · refine .inr (.inr (.inr ⟨Int.not_lt.1 h1, Int.not_lt.1 fun h4 => hin ⟨Int.not_lt.1 h1, Int.not_lt.1 h2, Int.not_lt.1 h3, h4⟩⟩)))
            have HR := Lib.hid (back_keep hbw hlt hno (hP.drewN 1) (hto.drewN 1) (hs.drewN 1))
            clear hP hto hs hno hak hrr hin
            go_wp2_with fail
            (refine Go.Mine.wp_region_tail 11 (by kernel_rfl) (by kernel_rfl) ?_; simp only [List.take_succ_cons, List.take_zero, List.drop_succ_cons, List.drop_zero]; (repeat (refine Go.wpStill_step (fun K hK => ?_); go_simp; first | (refine hK _ ?_; clear hK K) | (apply Exists.intro; refine ⟨?_, hK _ ?_⟩; (fail); clear hK K))); refine Go.wpStill_nil ?_)
            go_wp2_with fail
            refine hput.mono ?_
            rintro e w4 ⟨rfl, rfl⟩
            go_wp2_with fail
            go_roundw
            case rel => exact HR.out
            case measure => simp [intOf]; omega
        · rw [hac] at q0
          by_cases h01 : Is01 a.s
          · have hyes : actBits (l[k]'hlt) = some (digs a.s) := by rw [hak2]; simp [actBits, hac, h01]
            have hcode := Code_ok wr hP a.s h01 (by omega) hbase
            have HH := Lib.hid (And.intro hyes (And.intro hP (And.intro hto hs)))
            obtain ⟨Ak, ck, rfl, hck⟩ := hs.val
            clear hP hto hs hyes hak hrr
            go_wp2_with fail
            refine hcode.mono ?_
            rintro e w4 ⟨rfl, v4, hP4, ht4, _⟩
            obtain ⟨hyes, hP, hto, hs⟩ := HH.out
            obtain ⟨hto4, hs4⟩ := back_pen hbw hP hto hs hP4 ht4
            have hrr4 := HS.out.2.2.cells (w' := w4) fun p u hp => hto4.cell hp (by simp)
            obtain ⟨g4, off4, c4, hv4, p0, p1, p2, p3⟩ := act_cells hrr4 hlt
            injection hv4 with hv4 _ hcc4
            injection hv4 with hv4
            injection hv4 with hvg hvo
            subst hvg hvo hcc4
            rw [hak2] at p0 p1 p2 p3
            have hfm : ((l.take k).filter actOk).length ≤ 60 := by
              have h1 := List.length_filter_le actOk (l.take k)
              simp at h1; omega
            have hbs4 : w.heap.size ≤ w4.heap.size := hto4.size
            rw [hac] at p0
            have HA := Lib.hid (And.intro hyes (And.intro hP4 (And.intro hto4 hs4)))
            have hs4' := hs4.alloc (.cells #[.bool a.codes, .int .i64 a.n, .int .i64 a.b, .string (str a.s)] 23)
            rw [hac] at hs4'
            have hrd4 := Rd.lit w4 [.bool true, .int .i64 a.n, .int .i64 a.b, .string (str a.s)] 23 1 (size := 4) rfl
            clear hyes hP4 hto4 hs4 hP hto hs ht4 hrr4 HH q0 q1 q2 q3
            go_wp2_with (at_builtin; refine wpList_append_sl rfl _ _ 25 rfl w.heap.size 23 i0 _ 4 40 Try.underlying25 hi0 hz0 hz1 hz2 rfl (by decide) (.slice Ak _ ck) _ _ rfl hs4' _ 1 _ rfl hrd4 (by simp [Value.oneCell']) (by simp only [maxLen]; omega) (by omega) (by simp; omega) ?_; intro v5 w5 hs5 hg5 hat5)
            have HR := Lib.hid (back_app (C := .cells #[.bool true, .int .i64 a.n, .int .i64 a.b, .string (str a.s)] 23) hlt HA.out.1 HA.out.2.1 HA.out.2.2.1 HA.out.2.2.2 (by rw [hak2]; simp only [Act01.cells, hac]; exact hs5) hg5)
            clear hs5 hg5 hat5 hs4' hrd4
            go_wp2_with fail
            go_roundw
            case rel => exact HR.out
            case measure => simp [intOf]; omega
          · have hno : actBits (l[k]'hlt) = none := by rw [hak2]; simp [actBits, hac, h01]
            have hcode := Code_form wr hP a.s h01 (by omega)
            have HR := Lib.hid (back_keep hbw hlt hno hP hto hs)
            clear hP hto hs hno hak hrr
            go_wp2_with fail
            refine hcode.mono ?_
            rintro e w4 ⟨rfl, rfl⟩
            go_wp2_with fail
            go_roundw
            case rel => exact HR.out
            case measure => simp [intOf]; omega
      · obtain rfl : k = l.length := by omega
        rw [List.take_of_length_le (Nat.le_refl _)] at hP hs
        generalize hL : allBits l = L at hP
        generalize hK : l.filter actOk = K at hs
        have hKb : allBits K = L := by rw [← hK, allBits_filter, hL]
        have hKl : K.length ≤ 60 := by have := List.length_filter_le actOk l; rw [hK] at this; omega
        have hKo : ∀ a ∈ K, (actBits a).isSome = true ∧ a.s.length ≤ 100 := fun a ha => by
          rw [← hK] at ha
          obtain ⟨h1, h2⟩ := List.mem_filter.1 ha
          exact ⟨h2, HS.out.1 a h1⟩
        have HK := Lib.hid (And.intro hKb hKo)
        obtain ⟨Ak, ck, rfl, hck⟩ := hs.val
        clear hL hK hKb hKo
        go_wp2_with fail
        refine (Bytes_any wr hP).mono ?_
        rintro e w6 ⟨u, rfl, hu, ht6⟩
        have hto6 := hto.trans ht6
        have hP6 := hP.only0 ht6
        have hs6 := hs.only ht6 (fun g _ => by simp)
        have hbin := hP.bin
        clear hP hto hs ht6
        have hru := Rd.of_sl hu
        have hrk := Rd.of_sl hs6
        go_wp2_with fail
        have HB := Lib.hid hbin
        have HP := Lib.hid (And.intro hP6 hto6)
        have hul : ∃ Au cu, u = .slice Au (pack L).length cu := by obtain ⟨A', c', h, _⟩ := hu.val; exact ⟨A', c', h⟩
        have HPL := Lib.hid (pack_length L)
        have hLs : L.length ≤ 16777216 := hP6.small
        clear hbin hP6 hto6 hu hs6
        obtain ⟨Au, cu, rfl⟩ := hul
        go_loopw [9, 10] (fun at_ i wr => ∃ t : Nat, t ≤ K.length ∧ i = .int .i64 (t : Int) ∧ at_ = .int .i64 ((allBits (K.take t)).length : Int) ∧ OnlyIn [] w6 wr) (fun _ i _ => K.length - (intOf i).toNat)
        case atStart => exact ⟨0, by omega, rfl, rfl, OnlyIn.refl _ _⟩
        case round =>
          obtain ⟨t, ht, rfl, rfl, hto7⟩ := hrel
          obtain ⟨wo, hwo⟩ : ∃ wo : World, wo = wr := ⟨_, rfl⟩
          subst hwo
          by_cases htl : t < K.length
          · have hrk7 := hrk.cells (w' := wo) fun p y hp => hto7.cell hp (by simp)
            obtain ⟨g, off, c', hv, q0, q1, q2, q3⟩ := act_cells hrk7 htl
            injection hv with hv _ hcc
            subst hv hcc
            obtain ⟨a, ha⟩ : ∃ a, K[t]'htl = a := ⟨_, rfl⟩
            have hka := HK.out.2 _ (List.getElem_mem htl)
            rw [ha] at q0 q1 q2 q3 hka
            obtain ⟨x, hx⟩ := Option.isSome_iff_exists.1 hka.1
            have hsplit : K = K.take t ++ [a] ++ K.drop (t + 1) := by
              rw [← ha, ← List.take_succ_eq_append_getElem htl, List.take_append_drop]
            have hL2 : L = allBits (K.take t) ++ x ++ allBits (K.drop (t + 1)) := by
              rw [← HK.out.1]
              conv => lhs; rw [hsplit]
              rw [allBits_append, allBits_append, allBits_one, hx]; rfl
            have htk : allBits (K.take (t + 1)) = allBits (K.take t) ++ x := by
              rw [List.take_succ_eq_append_getElem htl, ha, allBits_append, allBits_one, hx]; rfl
            have hlen2 : (allBits (K.take t)).length + x.length ≤ L.length := by rw [hL2]; simp
            have hto8 : OnlyIn [] w6 (wo.alloc (.cells #[.bool a.codes, .int .i64 a.n, .int .i64 a.b, .string (str a.s)] 23)) := hto7.alloc _
            have hru8 := hru.cells (w' := wo.alloc (.cells #[.bool a.codes, .int .i64 a.n, .int .i64 a.b, .string (str a.s)] 23)) fun p y hp => hto8.cell hp (by simp)
            have hbin := HB.out
            obtain ⟨P, hPP⟩ : ∃ P, allBits (K.take t) = P := ⟨_, rfl⟩
            rw [hPP] at hL2 htk hlen2 ⊢
            have hM := Lib.hid (And.intro htk hto8)
            clear hsplit htk hrk7 hto7 hto8 ha
            rcases hac : a.codes with _ | _
            · have hin : 0 ≤ a.b ∧ a.b ≤ 32 ∧ 0 ≤ a.n ∧ a.n < 2 ^ a.b.toNat ∧ x = bitsOf a.n.toNat a.b.toNat := by
                simp only [actBits, hac, Bool.false_eq_true, if_false] at hx
                split at hx
                · rename_i h; exact ⟨h.1, h.2.1, h.2.2.1, h.2.2.2, by injection hx with hx; exact hx.symm⟩
                · cases hx
              obtain ⟨nn, hnn⟩ := Int.eq_ofNat_of_zero_le hin.2.2.1
              obtain ⟨bb, hbb⟩ := Int.eq_ofNat_of_zero_le hin.1
              have hlt2 : nn < 2 ^ bb := by have := hin.2.2.2.1; rw [hnn, hbb] at this; simp at this; exact_mod_cast this
              have hxe : x = bitsOf nn bb := by rw [hin.2.2.2.2, hnn, hbb]; simp
              have hxl : x.length = bb := by rw [hxe, bitsOf_length]
              have hro := read_put (P := P) (R := allBits (K.drop (t + 1))) (k := bb) (by omega) hlt2 (by rw [← hxe, ← hL2]; exact hbin)
              rw [← hxe, ← hL2] at hro
              rw [hac] at hru8 q0
              have hrd := reads_any _ _ (pack L) hru8 (by rw [HPL.out]; omega) (P.length : Int) (bb : Int) (nn : Int) 0 (by omega)
              rw [hro] at hrd
              simp only [decide_true] at hrd
              rw [← hnn, ← hbb] at hrd
              have hb1 : 0 ≤ a.b ∧ a.b ≤ 32 := ⟨hin.1, hin.2.1⟩
              have HX := Lib.hid (And.intro hbb hxl)
              clear hin hnn hbb hlt2 hxe hxl hro hru8 hbin hL2 hx hka
              go_wp2_with fail
              refine hrd.mono ?_
              rintro e w8 ⟨rfl, hw8⟩
              subst hw8
              clear hrd
              go_wp2_with fail
              go_loop [9, 12] (fun at_ j => j = .int .i64 0 ∧ at_ = .int .i64 ((P.length : Int) + a.b)) (fun _ _ => 0)
              case atStart => exact ⟨rfl, rfl⟩
              case round =>
                obtain ⟨rfl, rfl⟩ := hrel
                obtain ⟨htk, hto8⟩ := hM.out
                have hfin : ((allBits (K.take (t + 1))).length : Int) = (P.length : Int) + a.b := by
                  rw [htk, List.length_append, HX.out.2, HX.out.1]; push_cast; rfl
                have HT := Lib.hid (And.intro hto8 hfin)
                clear htk hto8 hfin
                go_wp2_with fail
                go_roundw
                case rel =>
                  obtain ⟨hto8, hfin⟩ := HT.out
                  rw [hac] at hto8
                  exact ⟨t + 1, by omega, by go_num, by rw [hfin], hto8⟩
                case measure => simp [intOf]; omega
            · have h01 : Is01 a.s ∧ x = digs a.s := by
                simp only [actBits, hac, if_true] at hx
                split at hx
                · rename_i h; exact ⟨h, by injection hx with hx; exact hx.symm⟩
                · cases hx
              obtain ⟨h01, hxe⟩ := h01
              have hxl : x.length = a.s.length := by rw [hxe, digs_length]
              rw [hac] at hru8 q0
              have HX := Lib.hid (And.intro hxe (And.intro hxl (And.intro hL2 (And.intro h01 hbin))))
              have hsl := hka.2
              have hsl2 : (str a.s).size ≤ 100 := by rw [str_size]; exact hsl
              have hlen3 : P.length + a.s.length ≤ L.length := by rw [← hxl]; exact hlen2
              clear hx hxe hxl hL2 h01 hbin hka hlen2
              go_wp2_with fail
              go_loop [9, 12] (fun at_ j => ∃ q : Nat, q ≤ a.s.length ∧ j = .int .i64 (q : Int) ∧ at_ = .int .i64 ((P.length : Int) + (q : Int))) (fun _ j => a.s.length - (intOf j).toNat)
              case atStart => exact ⟨0, by omega, rfl, by simp⟩
              case round =>
                obtain ⟨q, hq, rfl, rfl⟩ := hrel
                by_cases hqs : q < a.s.length
                · have hjs : q < (str a.s).size := by rw [str_size]; exact hqs
                  have hget := str_get hjs hqs
                  obtain ⟨hxe, hxl, hL2, h01, hbin⟩ := HX.out
                  obtain ⟨z, hz, hzc⟩ : ∃ z : Nat, z < 2 ∧ (a.s[q]'hqs).toNat = 48 + z := by
                    rcases h01 _ (List.getElem_mem hqs) with hc | hc
                    · exact ⟨0, by omega, by rw [hc]; rfl⟩
                    · exact ⟨1, by omega, by rw [hc]; rfl⟩
                  have hv : (((str a.s)[q]'hjs).toNat : Int) = 48 + (z : Int) := by rw [hget, hzc]; omega
                  have hro := read_bit hbin (i := P.length + q) (by omega)
                  have hgd : L.getD (P.length + q) 0 = z := by
                    rw [hL2, List.getD_eq_getElem?_getD, List.append_assoc, List.getElem?_append_right (by omega), show P.length + q - P.length = q by omega, List.getElem?_append_left (by omega), hxe]
                    simp [digs, List.getElem?_eq_getElem hqs, hzc]
                  rw [hgd] at hro
                  have hrd := reads_any _ _ (pack L) hru8 (by rw [HPL.out]; omega) ((P.length + q : Nat) : Int) 1 (z : Int) 0 (by omega)
                  rw [hro] at hrd
                  simp only [decide_true] at hrd
                  rw [show ((P.length + q : Nat) : Int) = (P.length : Int) + (q : Int) from by omega] at hrd
                  clear hxe hxl hL2 h01 hbin hget hzc hro hgd
                  go_wp2_with fail
                  rw [show (48 : Int) + (z : Int) - 48 = (z : Int) from by omega]
                  refine hrd.mono ?_
                  rintro e w8 ⟨rfl, hw8⟩
                  subst hw8
                  clear hrd
                  go_wp2_with fail
                  go_round
                  case rel => exact ⟨q + 1, by omega, by go_num, by go_num⟩
                  case measure => simp [intOf]; omega
                · obtain rfl : q = a.s.length := by omega
                  have hsz : (str a.s).size ≤ a.s.length := by rw [str_size]; exact Nat.le_refl _
                  obtain ⟨htk, hto8⟩ := hM.out
                  have hfin : ((allBits (K.take (t + 1))).length : Int) = (P.length : Int) + (a.s.length : Int) := by
                    rw [htk, List.length_append, HX.out.2.1]; push_cast; rfl
                  have HT := Lib.hid (And.intro hto8 hfin)
                  clear htk hto8 hfin
                  go_wp2_with fail
                  go_roundw
                  case rel =>
                    obtain ⟨hto8, hfin⟩ := HT.out
                    rw [hac] at hto8
                    exact ⟨t + 1, by omega, by go_num, by rw [hfin], hto8⟩
                  case measure => simp [intOf]; omega
          · obtain rfl : t = K.length := by omega
            have hat : (allBits (K.take K.length)).length = L.length := by rw [List.take_of_length_le (Nat.le_refl _), HK.out.1]
            rw [hat]
            obtain ⟨lf, hlf⟩ : ∃ lf : Nat, 8 * ((L.length + 7) / 8) - L.length = lf := ⟨_, rfl⟩
            have hro := read_left HB.out (k := lf) (by omega)
            have hru9 := hru.cells (w' := wo) fun p y hp => hto7.cell hp (by simp)
            have hcnt := Count_any wo Au (pack L).length cu (by rw [HPL.out]; omega)
            have hrd := reads_any wo _ (pack L) hru9 (by rw [HPL.out]; omega) (L.length : Int) (lf : Int) 0 0 (by omega)
            rw [hro] at hrd
            simp only [decide_true] at hrd
            have hlen := Len_any wo (HP.out.1.only0 hto7)
            have h8 : 8 * ((pack L).length : Int) = (L.length : Int) + (lf : Int) := by rw [HPL.out]; omega
            have hlf8 : lf < 8 := by omega
            have HF := Lib.hid (HP.out.2.trans hto7)
            rw [h8] at hcnt
            clear hat hlf hro hru9 hto7 h8
            go_wp2_with (first | (go_at_call 27; refine hcnt.mono ?_; rintro e w8 ⟨rfl, rfl⟩) | (go_at_call 19; refine hlen.mono ?_; rintro e w8 ⟨rfl, rfl⟩) | (go_at_call 28; rw [show (L.length : Int) + (lf : Int) - (L.length : Int) = (lf : Int) from by omega]; refine hrd.mono ?_; rintro e w8 ⟨rfl, rfl⟩) | (go_at_call 28; refine hrd.mono ?_; rintro e w8 ⟨rfl, rfl⟩))
            go_ret
            exact ⟨rfl, HF.out⟩
  · have hlong := Long_yes w2 vl l hr2 hml (fun a ha => (hok a ha).2.2) hsm
    clear hsm hok hr hr2 hml
    go_wp2_with (go_at_call 15; refine hlong.mono ?_; rintro e w3 ⟨rfl, rfl⟩)
    go_ret
    exact ⟨rfl, hto⟩
end Go.Proofs.Ytejomjkkjcnfnaa
