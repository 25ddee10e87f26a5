/-
  Law 03: made: a tree of the texts that fit.
-/
import Derived.Test.YtboipjdgccbjmaaMadeSpec
import Derived.Test.YtboipjdgccbjmaaKnown03
namespace Go.Proofs.Ytboipjdgccbjmaa
open Go.RowKit Go.Mine

/-- What made leaves. -/
def MadeEnd (cs : List (List UInt8)) (w : World) (e : Ending) (w' : World) : Prop :=
  OnlyIn [] w w' ∧ ∃ kv p K, K = takeIn [] cs ∧ e = .returned (.tuple #[.pointer p, kv]) ∧ Rd w' 1 kv K.length (txtCells K) ∧
    ((K = [] ∧ p = none) ∨ (K ≠ [] ∧ ∃ t b v mb, p = some ⟨b, 0, none⟩ ∧ build [TNode.mt] (kvOf (K.zip (upTo K.length))) = some t ∧ Tr w' w.heap.size b v mb K.length t (told (K.zip (upTo K.length))) K.length))

set_option maxRecDepth 100000 in
set_option maxHeartbeats 4000000 in
theorem made_any (w : World) (cv : Value) (cs : List (List UInt8)) (hc : Rd w 1 cv cs.length (txtCells cs)) (hcl : cs.length ≤ 60) (hs : ∀ s ∈ cs, s.length ≤ 1000000) :
    Calls Try.prog 51 #[cv] w fun e w' => MadeEnd cs w e w' := by
  obtain ⟨-, A, c, rfl, hcA, hA⟩ := hc
  obtain ⟨N, hN⟩ : ∃ N, cs.length = N := ⟨_, rfl⟩
  rw [hN] at hcA hA hcl ⊢
  have hcell : ∀ k, k < N → ∃ g off, A = some ⟨g, off, none⟩ ∧ w.cell? ⟨g, off + k, none⟩ = some (.string (str (cs.getD k []))) := fun k hk => by
    obtain ⟨g, off, e1, e2⟩ := hA (by omega)
    have hkl : k < cs.length := by rw [hN]; exact hk
    refine ⟨g, off, e1, ?_⟩
    rw [List.getD_eq_getElem?_getD, List.getElem?_eq_getElem hkl]
    exact e2 k _ (txtCells_get hkl)
  have HL := Lib.hid (And.intro hN hs)
  have HC := Lib.hid hcell
  clear hA hcell hN hs
  obtain ⟨i0, hi0, hz0, hz1, hz2⟩ := info_parts Try.infoStr
  obtain ⟨j0, hj0, hy0, hy1, hy2⟩ := info_parts Try.infoIC
  go_enter Try.func51, Try.ntmps51
  go_wp2_with fail
  go_loopw [4, 5, 6, 7, 8, 9] (fun kv i _ _ _ _ wr => ∃ (k : Nat) (kept : List (List UInt8)), k ≤ N ∧ i = .int .i64 (k : Int) ∧ kept.length ≤ 40 ∧ Sl wr w.heap.size 9 1 kv kept.length (txtCells kept) ∧ Hid (KeptOk kept ∧ takeIn kept (cs.drop k) = takeIn [] cs) ∧ OnlyIn [] w wr) (fun _ i _ _ _ _ _ => N - (intOf i).toNat)
  case atStart => exact ⟨0, [], by omega, rfl, by simp, Sl.nil _ _ _ _, Lib.hid ⟨KeptOk.nil, rfl⟩, OnlyIn.refl _ _⟩
  case round =>
    obtain ⟨k, kept, hk, rfl, h40, hsk, HK, hto⟩ := hrel
    obtain ⟨KN, hKN⟩ : ∃ KN, kept.length = KN := ⟨_, rfl⟩
    rw [hKN] at hsk h40
    obtain ⟨B, d, rfl, hdd⟩ := hsk.val
    have HKN := Lib.hid hKN
    have HS := Lib.hid hsk
    clear hKN hsk
    by_cases hlt : k < N
    · by_cases hk40 : KN < 40
      · have hkl : k < cs.length := by rw [HL.out.1]; exact hlt
        obtain ⟨g, off, rfl, c0⟩ := HC.out k hlt
        obtain ⟨s, hsv⟩ : ∃ s, cs.getD k [] = s := ⟨_, rfl⟩
        have hgs : cs[k]'hkl = s := by rw [← hsv, List.getD_eq_getElem?_getD, List.getElem?_eq_getElem hkl]; rfl
        rw [hsv] at c0
        have c1 := hto.cell c0 (by simp)
        have hss := str_size s
        obtain ⟨z, hz⟩ : ∃ z, s.length = z := ⟨_, rfl⟩
        rw [hz] at hss
        have hzb : z ≤ 1000000 := by rw [← hz, ← hgs]; exact HL.out.2 _ (List.getElem_mem hkl)
        have HSL := Lib.hid hz
        have HT := Lib.hid hto
        have HC0 := Lib.hid c0
        clear hsv hz hto c0
        rcases Nat.eq_zero_or_pos z with h0 | h0
        · have hnc : codeB s = false := by rw [Bool.eq_false_iff]; intro h; have := ((codeB_iff s).1 h).2.1; have := HSL.out; omega
          subst h0
          go_wp2_with fail
          have HCF : Hid (fits kept s = false) := Lib.hid (by unfold fits; rw [hnc]; rfl)
          clear hnc
          go_loop [6, 7] (fun f _ => f = .bool false) (fun _ _ => 0)
          case atStart => rfl
          case round =>
            subst hrel
            go_wp2_with fail
            go_loop [6, 8, 9] (fun f _ _ => f = .bool false) (fun _ _ _ => 0)
            case atStart => rfl
            case round =>
              subst hrel
              have HS2 := HS.out
              have HT2 := HT.out
              obtain ⟨hKO, hTK⟩ := HK.out
              have HK2 : Hid (KeptOk kept ∧ takeIn kept (cs.drop (k + 1)) = takeIn [] cs) := Lib.hid ⟨hKO, by
                rw [← hTK, takeIn_step hkl (by rw [HKN.out]; exact hk40), hgs, HCF.out]; rfl⟩
              clear hKO hTK
              go_wp2_with fail
              go_roundw
              case rel => exact ⟨k + 1, kept, by omega, by go_num, by rw [HKN.out]; omega, by rw [HKN.out]; exact HS2, HK2, HT2⟩
              case measure => simp [intOf]; omega
        · by_cases h24 : z ≤ 24
          · have d1 : decide ((1 : Int) ≤ (z : Int)) = true := decide_eq_true (by omega)
            have d2 : decide ((z : Int) ≤ 24) = true := decide_eq_true (by omega)
            go_wp2_with fail
            go_loop [6, 7] (fun f j => ∃ m : Nat, m ≤ z ∧ j = .int .i64 (m : Int) ∧ ((f = .bool true ∧ Hid (binB (s.take m) = true)) ∨ (f = .bool false ∧ Hid (binB s = false)))) (fun f j => z - (intOf j).toNat)
            case atStart => exact ⟨0, by omega, rfl, .inl ⟨rfl, Lib.hid rfl⟩⟩
            case round =>
              obtain ⟨m, hm, rfl, ⟨rfl, HB⟩ | ⟨rfl, HB⟩⟩ := hrel
              · by_cases hmz : m < z
                · have hks : m < (str s).size := by omega
                  have hkb : m < s.length := by rw [HSL.out]; omega
                  have hget := str_at hks hkb
                  by_cases hc : s[m]'hkb = 48 ∨ s[m]'hkb = 49
                  · have HB2 : Hid (binB (s.take (m + 1)) = true) := Lib.hid (by
                      rw [List.take_add_one, List.getElem?_eq_getElem hkb]
                      have h1 := HB.out
                      unfold binB at h1 ⊢
                      rw [List.all_append, h1]
                      rcases hc with hc | hc <;> simp [hc])
                    rcases hc with hc | hc
                    · have hv : (((str s)[m]'hks).toNat : Int) = 48 := by rw [hget, hc]; rfl
                      clear hget hc HB
                      go_wp2_with fail
                      go_round
                      case rel => exact ⟨m + 1, by omega, by go_num, .inl ⟨rfl, HB2⟩⟩
                      case measure => simp [intOf]; omega
                    · have hv : (((str s)[m]'hks).toNat : Int) = 49 := by rw [hget, hc]; rfl
                      clear hget hc HB
                      go_wp2_with fail
                      go_round
                      case rel => exact ⟨m + 1, by omega, by go_num, .inl ⟨rfl, HB2⟩⟩
                      case measure => simp [intOf]; omega
                  · have hv1 : ((((str s)[m]'hks).toNat : Int) == 48) = false := by rw [hget]; simp; exact fun e => hc (.inl (UInt8.toNat_inj.1 (by simpa using (by omega : (s[m]'hkb).toNat = 48))))
                    have hv2 : ((((str s)[m]'hks).toNat : Int) == 49) = false := by rw [hget]; simp; exact fun e => hc (.inr (UInt8.toNat_inj.1 (by simpa using (by omega : (s[m]'hkb).toNat = 49))))
                    have HB2 : Hid (binB s = false) := Lib.hid (by
                      unfold binB
                      rw [List.all_eq_false]
                      refine ⟨_, List.getElem_mem hkb, ?_⟩
                      simp only [not_or] at hc
                      simp [hc.1, hc.2])
                    clear hget hc HB
                    go_wp2_with fail
                    go_round
                    case rel => exact ⟨m + 1, by omega, by go_num, .inr ⟨rfl, HB2⟩⟩
                    case measure => simp [intOf]; omega
                · obtain rfl : m = z := by omega
                  have HCT : Hid (codeB s = true) := Lib.hid (by
                    have h1 := HB.out
                    rw [List.take_of_length_le (by rw [HSL.out]; exact Nat.le_refl _)] at h1
                    unfold codeB
                    rw [h1, HSL.out, decide_eq_true (show 1 ≤ m from h0), decide_eq_true h24]; rfl)
                  clear HB
                  go_wp2_with fail
                  go_loopw [6, 8, 9] (fun f j _ wr2 => ∃ q : Nat, q ≤ KN ∧ j = .int .i64 (q : Int) ∧ OnlyIn [] wr wr2 ∧ ((f = .bool true ∧ Hid ((kept.take q).all (fun u => !sameTo u s) = true)) ∨ (f = .bool false ∧ Hid (kept.all (fun u => !sameTo u s) = false)))) (fun f j _ _ => KN - (intOf j).toNat)
                  case atStart => exact ⟨0, by omega, rfl, OnlyIn.refl _ _, .inl ⟨rfl, Lib.hid rfl⟩⟩
                  case round =>
                    obtain ⟨q, hq, rfl, ht2, ⟨rfl, HB⟩ | ⟨rfl, HB⟩⟩ := hrel
                    · by_cases hqk : q < KN
                      · have hql : q < kept.length := by rw [HKN.out]; exact hqk
                        have e1 := ht2.cell c1 (by simp)
                        obtain ⟨g2, off2, cap2, hB2, hg21, hg22, hg23⟩ := HS.out.form (by omega)
                        injection hB2 with hB2 _ hdc
                        subst hB2 hdc
                        have e2 := ht2.cell (HS.out.cell_at rfl (txtCells_get hql)) (by simp)
                        obtain ⟨u, hu⟩ : ∃ u, kept[q]'hql = u := ⟨_, rfl⟩
                        rw [hu] at e2
                        have hku := str_size u
                        obtain ⟨y, hy⟩ : ∃ y, u.length = y := ⟨_, rfl⟩
                        rw [hy] at hku
                        have hyb : y ≤ 24 := by rw [← hy, ← hu]; exact ((codeB_iff _).1 (List.all_eq_true.1 HK.out.1.2.1 _ (List.getElem_mem hql))).2.2
                        have HB2 : Hid ((Value.bool !sameTo u s) = Value.bool true ∧ Hid ((kept.take (q + 1)).all (fun u => !sameTo u s) = true) ∨ (Value.bool !sameTo u s) = Value.bool false ∧ Hid (kept.all (fun u => !sameTo u s) = false)) := Lib.hid (by
                          cases hsm : sameTo u s
                          · refine .inl ⟨rfl, Lib.hid ?_⟩
                            rw [List.take_add_one, List.getElem?_eq_getElem hql, hu, List.all_append, HB.out]
                            simp [hsm]
                          · refine .inr ⟨rfl, Lib.hid ?_⟩
                            rw [List.all_eq_false]
                            exact ⟨u, by rw [← hu]; exact List.getElem_mem hql, by simp [hsm]⟩)
                        rcases Nat.lt_trichotomy y m with hym | hym | hym
                        · have dlt : decide ((y : Int) < (m : Int)) = true := decide_eq_true (by omega)
                          have dle : decide ((y : Int) ≤ (m : Int)) = true := decide_eq_true (by omega)
                          have dgt : decide ((m : Int) < (y : Int)) = false := decide_eq_false (by omega)
                          have hx1 := str_take u y
                          have hx2 := str_take s y
                          have hq2 := str_beq (u.take y) (s.take y)
                          have hsame : decide (u.take y = s.take y) = sameTo u s := by unfold sameTo; rw [hy, HSL.out, Nat.min_eq_left (by omega)]
                          have hle : y ≤ m := by omega
                          rw [hsame] at hq2
                          clear hsame HB
                          go_wp2_with fail
                          (refine Go.Mine.wp_region_inv (Go.Mine.OnlyIn [] _) (by kernel_rfl) (by kernel_rfl) ((Go.Mine.OnlyIn.refl _ _).drew) ?_; (repeat (first | (refine Go.Mine.wpInv_run _ (by first | rfl | go_simp) (fun W hW => by (have f1 := hW.cell e1 (by simp); have f2 := hW.cell e2 (by simp); go_simp; first | exact ⟨rfl, hW⟩ | exact rfl)) ?_; go_simp) | (refine Go.Mine.wpInv_skip (by first | rfl | go_simp) ?_; go_simp))); refine Go.Mine.wpInv_nil ?_; intro W hW; have f1 := hW.cell e1 (by simp); have f2 := hW.cell e2 (by simp))
                          go_wp2_with fail
                          have ht3 := ht2.then hW (by simp)
                          have f1 := hW.cell e1 (by simp)
                          have f2 := hW.cell e2 (by simp)
                          clear e1 e2
                          (refine Go.Mine.wp_region_inv (Go.Mine.OnlyIn [] _) (by kernel_rfl) (by kernel_rfl) ((Go.Mine.OnlyIn.refl _ _).drew) ?_; (repeat (first | (refine Go.Mine.wpInv_run _ (by first | rfl | go_simp) (fun W hW => by (have x1 := hW.cell f1 (by simp); have x2 := hW.cell f2 (by simp); go_simp; first | exact ⟨rfl, hW⟩ | exact rfl)) ?_; go_simp) | (refine Go.Mine.wpInv_skip (by first | rfl | go_simp) ?_; go_simp))); refine Go.Mine.wpInv_nil ?_; intro W hW; have x1 := hW.cell f1 (by simp); have x2 := hW.cell f2 (by simp))
                          go_wp2_with fail
                          go_roundw
                          case rel => exact ⟨q + 1, by omega, by go_num, ht3.then hW (by simp), HB2.out⟩
                          case measure => simp [intOf]; omega
                        · obtain rfl : y = m := by omega
                          have hx1 := str_take u y
                          have hx2 := str_take s y
                          have hq2 := str_beq (u.take y) (s.take y)
                          have hsame : decide (u.take y = s.take y) = sameTo u s := by unfold sameTo; rw [hy, HSL.out, Nat.min_eq_right (by omega)]
                          have hle : y ≤ y := by omega
                          rw [hsame] at hq2
                          clear hsame HB
                          go_wp2_with fail
                          (refine Go.Mine.wp_region_inv (Go.Mine.OnlyIn [] _) (by kernel_rfl) (by kernel_rfl) ((Go.Mine.OnlyIn.refl _ _).drew) ?_; (repeat (first | (refine Go.Mine.wpInv_run _ (by first | rfl | go_simp) (fun W hW => by (have f1 := hW.cell e1 (by simp); have f2 := hW.cell e2 (by simp); go_simp; first | exact ⟨rfl, hW⟩ | exact rfl)) ?_; go_simp) | (refine Go.Mine.wpInv_skip (by first | rfl | go_simp) ?_; go_simp))); refine Go.Mine.wpInv_nil ?_; intro W hW; have f1 := hW.cell e1 (by simp); have f2 := hW.cell e2 (by simp))
                          go_wp2_with fail
                          have ht3 := ht2.then hW (by simp)
                          have f1 := hW.cell e1 (by simp)
                          have f2 := hW.cell e2 (by simp)
                          clear e1 e2
                          (refine Go.Mine.wp_region_inv (Go.Mine.OnlyIn [] _) (by kernel_rfl) (by kernel_rfl) ((Go.Mine.OnlyIn.refl _ _).drew) ?_; (repeat (first | (refine Go.Mine.wpInv_run _ (by first | rfl | go_simp) (fun W hW => by (have x1 := hW.cell f1 (by simp); have x2 := hW.cell f2 (by simp); go_simp; first | exact ⟨rfl, hW⟩ | exact rfl)) ?_; go_simp) | (refine Go.Mine.wpInv_skip (by first | rfl | go_simp) ?_; go_simp))); refine Go.Mine.wpInv_nil ?_; intro W hW; have x1 := hW.cell f1 (by simp); have x2 := hW.cell f2 (by simp))
                          go_wp2_with fail
                          go_roundw
                          case rel => exact ⟨q + 1, by omega, by go_num, ht3.then hW (by simp), HB2.out⟩
                          case measure => simp [intOf]; omega
                        · have dlt : decide ((y : Int) < (m : Int)) = false := decide_eq_false (by omega)
                          have dle : decide ((y : Int) ≤ (m : Int)) = false := decide_eq_false (by omega)
                          have dgt : decide ((m : Int) < (y : Int)) = true := decide_eq_true (by omega)
                          have hx1 := str_take u m
                          have hx2 := str_take s m
                          have hq2 := str_beq (u.take m) (s.take m)
                          have hsame : decide (u.take m = s.take m) = sameTo u s := by unfold sameTo; rw [hy, HSL.out, Nat.min_eq_right (by omega)]
                          have hle : m ≤ y := by omega
                          rw [hsame] at hq2
                          clear hsame HB
                          go_wp2_with fail
                          (refine Go.Mine.wp_region_inv (Go.Mine.OnlyIn [] _) (by kernel_rfl) (by kernel_rfl) ((Go.Mine.OnlyIn.refl _ _).drew) ?_; (repeat (first | (refine Go.Mine.wpInv_run _ (by first | rfl | go_simp) (fun W hW => by (have f1 := hW.cell e1 (by simp); have f2 := hW.cell e2 (by simp); go_simp; first | exact ⟨rfl, hW⟩ | exact rfl)) ?_; go_simp) | (refine Go.Mine.wpInv_skip (by first | rfl | go_simp) ?_; go_simp))); refine Go.Mine.wpInv_nil ?_; intro W hW; have f1 := hW.cell e1 (by simp); have f2 := hW.cell e2 (by simp))
                          go_wp2_with fail
                          have ht3 := ht2.then hW (by simp)
                          have f1 := hW.cell e1 (by simp)
                          have f2 := hW.cell e2 (by simp)
                          clear e1 e2
                          (refine Go.Mine.wp_region_inv (Go.Mine.OnlyIn [] _) (by kernel_rfl) (by kernel_rfl) ((Go.Mine.OnlyIn.refl _ _).drew) ?_; (repeat (first | (refine Go.Mine.wpInv_run _ (by first | rfl | go_simp) (fun W hW => by (have x1 := hW.cell f1 (by simp); have x2 := hW.cell f2 (by simp); go_simp; first | exact ⟨rfl, hW⟩ | exact rfl)) ?_; go_simp) | (refine Go.Mine.wpInv_skip (by first | rfl | go_simp) ?_; go_simp))); refine Go.Mine.wpInv_nil ?_; intro W hW; have x1 := hW.cell f1 (by simp); have x2 := hW.cell f2 (by simp))
                          go_wp2_with fail
                          go_roundw
                          case rel => exact ⟨q + 1, by omega, by go_num, ht3.then hW (by simp), HB2.out⟩
                          case measure => simp [intOf]; omega
                      · obtain rfl : q = KN := by omega
                        have HCF : Hid (fits kept s = true) := Lib.hid (by
                          have h1 := HB.out
                          rw [List.take_of_length_le (by rw [HKN.out]; exact Nat.le_refl _)] at h1
                          unfold fits; rw [h1, HCT.out]; rfl)
                        obtain ⟨hKO, hTK⟩ := HK.out
                        have HK2 : Hid (KeptOk (kept ++ [s]) ∧ takeIn (kept ++ [s]) (cs.drop (k + 1)) = takeIn [] cs) := Lib.hid ⟨hKO.more (by rw [HKN.out]; exact hk40) HCF.out, by
                          rw [← hTK, takeIn_step hkl (by rw [HKN.out]; exact hk40), hgs, HCF.out]; rfl⟩
                        have hs2 := (HS.out.only ht2 (by simp)).alloc (.cells #[.string (str s)] 9)
                        have hrd := Rd.lit (size := 1) wr [.string (str s)] 9 1 rfl
                        have e1 := ht2.cell c1 (by simp)
                        have HT2 := Lib.hid (HT.out.then ht2 (by simp))
                        have hbs := HT2.out.size
                        clear hKO hTK HB HCT
                        go_wp2_with (at_builtin; refine wpList_append_sl rfl _ _ 51 rfl w.heap.size 9 i0 _ 1 16 Try.underlying51 hi0 hz0 hz1 hz2 rfl (by decide) (.slice B q d) _ _ rfl hs2 _ 1 _ rfl hrd (by simp [Value.oneCell']) (by simp only [maxLen]; omega) (by omega) (by simp; omega) ?_; intro v5 w5 hs5 hg5 hat5)
                        go_roundw
                        case rel => exact ⟨k + 1, kept ++ [s], by omega, by go_num, by simp; have := HKN.out; omega, by rw [txtCells_append, List.length_append, HKN.out]; exact hs5, HK2, (HT2.out.alloc _).grown hg5 (fun g hg => .inr (HS.out.own_lt g hg).1)⟩
                        case measure => simp [intOf]; omega
                    · have HCF : Hid (fits kept s = false) := Lib.hid (by unfold fits; rw [HB.out, Bool.and_false])
                      have HS2 := HS.out.only ht2 (by simp)
                      have HT2 := HT.out.then ht2 (by simp)
                      clear HB ht2
                      obtain ⟨hKO, hTK⟩ := HK.out
                      have HK2 : Hid (KeptOk kept ∧ takeIn kept (cs.drop (k + 1)) = takeIn [] cs) := Lib.hid ⟨hKO, by
                        rw [← hTK, takeIn_step hkl (by rw [HKN.out]; exact hk40), hgs, HCF.out]; rfl⟩
                      clear hKO hTK
                      go_wp2_with fail
                      go_roundw
                      case rel => exact ⟨k + 1, kept, by omega, by go_num, by rw [HKN.out]; omega, by rw [HKN.out]; exact HS2, HK2, HT2⟩
                      case measure => simp [intOf]; omega
              · have hnc : codeB s = false := by unfold codeB; rw [HB.out]; rfl
                have HCF : Hid (fits kept s = false) := Lib.hid (by unfold fits; rw [hnc]; rfl)
                clear hnc HB
                go_wp2_with fail
                go_loop [6, 8, 9] (fun f _ _ => f = .bool false) (fun _ _ _ => 0)
                case atStart => rfl
                case round =>
                  subst hrel
                  have HS2 := HS.out
                  have HT2 := HT.out
                  obtain ⟨hKO, hTK⟩ := HK.out
                  have HK2 : Hid (KeptOk kept ∧ takeIn kept (cs.drop (k + 1)) = takeIn [] cs) := Lib.hid ⟨hKO, by
                    rw [← hTK, takeIn_step hkl (by rw [HKN.out]; exact hk40), hgs, HCF.out]; rfl⟩
                  clear hKO hTK
                  go_wp2_with fail
                  go_roundw
                  case rel => exact ⟨k + 1, kept, by omega, by go_num, by rw [HKN.out]; omega, by rw [HKN.out]; exact HS2, HK2, HT2⟩
                  case measure => simp [intOf]; omega
          · have d1 : decide ((1 : Int) ≤ (z : Int)) = true := decide_eq_true (by omega)
            have d2 : decide ((z : Int) ≤ 24) = false := decide_eq_false (by omega)
            have hnc : codeB s = false := by rw [Bool.eq_false_iff]; intro h; have := ((codeB_iff s).1 h).2.2; have := HSL.out; omega
            go_wp2_with fail
            have HCF : Hid (fits kept s = false) := Lib.hid (by unfold fits; rw [hnc]; rfl)
            clear hnc
            go_loop [6, 7] (fun f _ => f = .bool false) (fun _ _ => 0)
            case atStart => rfl
            case round =>
              subst hrel
              go_wp2_with fail
              go_loop [6, 8, 9] (fun f _ _ => f = .bool false) (fun _ _ _ => 0)
              case atStart => rfl
              case round =>
                subst hrel
                have HS2 := HS.out
                have HT2 := HT.out
                obtain ⟨hKO, hTK⟩ := HK.out
                have HK2 : Hid (KeptOk kept ∧ takeIn kept (cs.drop (k + 1)) = takeIn [] cs) := Lib.hid ⟨hKO, by
                  rw [← hTK, takeIn_step hkl (by rw [HKN.out]; exact hk40), hgs, HCF.out]; rfl⟩
                clear hKO hTK
                go_wp2_with fail
                go_roundw
                case rel => exact ⟨k + 1, kept, by omega, by go_num, by rw [HKN.out]; omega, by rw [HKN.out]; exact HS2, HK2, HT2⟩
                case measure => simp [intOf]; omega
      · have HF : Hid (KeptOk kept ∧ kept = takeIn [] cs) := Lib.hid ⟨HK.out.1, by rw [← HK.out.2, takeIn_full (by rw [HKN.out]; exact hk40)]⟩
        clear HK
        have HT := Lib.hid hto
        clear hto
        go_wp2_with fail
        go_loopw [10, 11] (fun nv i wr2 => ∃ q : Nat, q ≤ KN ∧ i = .int .i64 (q : Int) ∧ Sl wr2 wr.heap.size 3 1 nv q (intCells (upTo q)) ∧ OnlyIn [] wr wr2) (fun _ i _ => KN - (intOf i).toNat)
        case atStart => exact ⟨0, by omega, rfl, Sl.nil _ _ _ _, OnlyIn.refl _ _⟩
        case round =>
          obtain ⟨q, hq, rfl, hsn, ht2⟩ := hrel
          obtain ⟨C, d2, rfl, hd2⟩ := hsn.val
          have hbs := ht2.size
          by_cases hqk : q < KN
          · have hs2 := hsn.alloc (.cells #[.int .i64 (q : Int)] 3)
            have hrd := Rd.lit (size := 1) wr [.int .i64 (q : Int)] 3 1 rfl
            have HT2 := Lib.hid ht2
            have HN2 := Lib.hid hsn
            clear ht2 hsn
            go_wp2_with (at_builtin; refine wpList_append_sl rfl _ _ 52 rfl _ 3 j0 _ 1 8 Try.underlying52 hj0 hy0 hy1 hy2 rfl (by decide) (.slice C q d2) _ _ rfl hs2 _ 1 _ rfl hrd (by simp [Value.oneCell']) (by simp only [maxLen]; omega) (by omega) (by simp; omega) ?_; intro v5 w5 hs5 hg5 hat5)
            go_roundw
            case rel => exact ⟨q + 1, by omega, by go_num, by rw [upTo_succ, intCells_append]; exact hs5, (HT2.out.alloc _).grown hg5 (fun g hg => .inr (HN2.out.own_lt g hg).1)⟩
            case measure => simp [intOf]; omega
          · obtain rfl : q = KN := by omega
            obtain ⟨hKO, hKT⟩ := HF.out
            have hK40 := hKO.1
            have hkn := HKN.out
            have hs2 := HS.out.only ht2 (by simp)
            have hto2 := HT.out.then ht2 (by simp)
            have hlu : (upTo q).length = q := upTo_length q
            have hmk := Make_any _ (.slice B q d) (.slice C q d2) kept (upTo q) (by rw [hkn]; exact Rd.of_sl hs2) (by rw [hlu]; exact Rd.of_sl hsn) (fun s hm => by have := ((codeB_iff s).1 (List.all_eq_true.1 hKO.2.1 s hm)).2.2; omega) (by omega) (by omega) (fun z hz => by obtain ⟨j, hj, rfl⟩ := List.mem_iff_getElem.1 hz; rw [upTo_get]; rw [hlu] at hj; omega)
            rcases Nat.eq_zero_or_pos q with h0 | h0
            · subst h0
              have hmk2 := hmk.mono (R' := fun e w' => e = .returned (.tuple #[.pointer none, .int .i64 2]) ∧ OnlyIn [] _ w') (fun e w' ⟨ho, h⟩ => by
                rcases h with ⟨-, he⟩ | ⟨⟨_, h, _⟩, -⟩
                · exact ⟨he, ho⟩
                · omega)
              have hnil : kept = [] := List.length_eq_zero_iff.1 (by omega)
              have HE := Lib.hid (And.intro hto2 (And.intro hKT (And.intro hnil (And.intro hs2 hkn))))
              clear hmk hKO hKT hkn hs2 hto2 hlu hsn ht2
              go_wp2_with (go_at_call 38; refine hmk2.mono ?_; rintro e w3 ⟨rfl, ht3⟩)
              go_ret2
              obtain ⟨hto2, hKT, hnil, hs2, hkn⟩ := HE.out
              exact (show MadeEnd cs w (.returned (.tuple #[.pointer none, .slice B 0 d])) _ from ⟨hto2.then ht3 (by simp), _, _, kept, hKT, rfl, by rw [hkn]; exact Rd.of_sl (hs2.only ht3 (by simp)), .inl ⟨hnil, rfl⟩⟩)
            · obtain ⟨t, hb⟩ := hKO.build
              have hmk2 := hmk.mono (R' := fun e w' => ∃ b v mb, e = .returned (.tuple #[.pointer (some ⟨b, 0, none⟩), .int .i64 0]) ∧ Tr w' _ b v mb kept.length t (told (kept.zip (upTo q))) kept.length ∧ OnlyIn [] _ w') (fun e w' ⟨ho, h⟩ => by
                rw [hkn] at hb
                rcases h with ⟨hbad, -⟩ | ⟨-, ⟨hno, -⟩ | ⟨t', b, v, mb, hs, he, hT⟩⟩
                · exfalso
                  rcases hbad with hbad | hbad | hbad | hbad
                  · exact hbad (by rw [hlu, hkn])
                  · omega
                  · omega
                  · rw [hKO.2.1] at hbad; cases hbad
                · rw [hb] at hno; cases hno
                · rw [hb] at hs
                  injection hs with hs
                  subst hs
                  exact ⟨b, v, mb, he, hT, ho⟩)
              have HE := Lib.hid (And.intro hto2 (And.intro hKT (And.intro hb (And.intro hs2 hkn))))
              clear hmk hKO hKT hkn hs2 hto2 hlu hsn ht2 hb
              go_wp2_with (go_at_call 38; refine hmk2.mono ?_; rintro e w3 ⟨b, v, mb, rfl, hT3, ht3⟩)
              go_ret2
              obtain ⟨hto2, hKT, hb, hs2, hkn⟩ := HE.out
              exact (show MadeEnd cs w (.returned (.tuple #[.pointer (some ⟨b, 0, none⟩), .slice B q d])) _ from ⟨hto2.then ht3 (by simp), _, _, kept, hKT, rfl, by rw [hkn]; exact Rd.of_sl (hs2.only ht3 (by simp)), .inr ⟨fun e => by rw [e] at hkn; simp at hkn; omega, t, b, v, mb, rfl, hb, by rw [hkn] at hT3 ⊢; exact hT3.lower hto2.size⟩⟩)
    · have HF : Hid (KeptOk kept ∧ kept = takeIn [] cs) := Lib.hid ⟨HK.out.1, by rw [← HK.out.2, List.drop_of_length_le (by rw [HL.out.1]; omega)]; rfl⟩
      clear HK
      have HT := Lib.hid hto
      clear hto
      go_wp2_with fail
      go_loopw [10, 11] (fun nv i wr2 => ∃ q : Nat, q ≤ KN ∧ i = .int .i64 (q : Int) ∧ Sl wr2 wr.heap.size 3 1 nv q (intCells (upTo q)) ∧ OnlyIn [] wr wr2) (fun _ i _ => KN - (intOf i).toNat)
      case atStart => exact ⟨0, by omega, rfl, Sl.nil _ _ _ _, OnlyIn.refl _ _⟩
      case round =>
        obtain ⟨q, hq, rfl, hsn, ht2⟩ := hrel
        obtain ⟨C, d2, rfl, hd2⟩ := hsn.val
        have hbs := ht2.size
        by_cases hqk : q < KN
        · have hs2 := hsn.alloc (.cells #[.int .i64 (q : Int)] 3)
          have hrd := Rd.lit (size := 1) wr [.int .i64 (q : Int)] 3 1 rfl
          have HT2 := Lib.hid ht2
          have HN2 := Lib.hid hsn
          clear ht2 hsn
          go_wp2_with (at_builtin; refine wpList_append_sl rfl _ _ 52 rfl _ 3 j0 _ 1 8 Try.underlying52 hj0 hy0 hy1 hy2 rfl (by decide) (.slice C q d2) _ _ rfl hs2 _ 1 _ rfl hrd (by simp [Value.oneCell']) (by simp only [maxLen]; omega) (by omega) (by simp; omega) ?_; intro v5 w5 hs5 hg5 hat5)
          go_roundw
          case rel => exact ⟨q + 1, by omega, by go_num, by rw [upTo_succ, intCells_append]; exact hs5, (HT2.out.alloc _).grown hg5 (fun g hg => .inr (HN2.out.own_lt g hg).1)⟩
          case measure => simp [intOf]; omega
        · obtain rfl : q = KN := by omega
          obtain ⟨hKO, hKT⟩ := HF.out
          have hK40 := hKO.1
          have hkn := HKN.out
          have hs2 := HS.out.only ht2 (by simp)
          have hto2 := HT.out.then ht2 (by simp)
          have hlu : (upTo q).length = q := upTo_length q
          have hmk := Make_any _ (.slice B q d) (.slice C q d2) kept (upTo q) (by rw [hkn]; exact Rd.of_sl hs2) (by rw [hlu]; exact Rd.of_sl hsn) (fun s hm => by have := ((codeB_iff s).1 (List.all_eq_true.1 hKO.2.1 s hm)).2.2; omega) (by omega) (by omega) (fun z hz => by obtain ⟨j, hj, rfl⟩ := List.mem_iff_getElem.1 hz; rw [upTo_get]; rw [hlu] at hj; omega)
          rcases Nat.eq_zero_or_pos q with h0 | h0
          · subst h0
            have hmk2 := hmk.mono (R' := fun e w' => e = .returned (.tuple #[.pointer none, .int .i64 2]) ∧ OnlyIn [] _ w') (fun e w' ⟨ho, h⟩ => by
              rcases h with ⟨-, he⟩ | ⟨⟨_, h, _⟩, -⟩
              · exact ⟨he, ho⟩
              · omega)
            have hnil : kept = [] := List.length_eq_zero_iff.1 (by omega)
            have HE := Lib.hid (And.intro hto2 (And.intro hKT (And.intro hnil (And.intro hs2 hkn))))
            clear hmk hKO hKT hkn hs2 hto2 hlu hsn ht2
            go_wp2_with (go_at_call 38; refine hmk2.mono ?_; rintro e w3 ⟨rfl, ht3⟩)
            go_ret2
            obtain ⟨hto2, hKT, hnil, hs2, hkn⟩ := HE.out
            exact (show MadeEnd cs w (.returned (.tuple #[.pointer none, .slice B 0 d])) _ from ⟨hto2.then ht3 (by simp), _, _, kept, hKT, rfl, by rw [hkn]; exact Rd.of_sl (hs2.only ht3 (by simp)), .inl ⟨hnil, rfl⟩⟩)
          · obtain ⟨t, hb⟩ := hKO.build
            have hmk2 := hmk.mono (R' := fun e w' => ∃ b v mb, e = .returned (.tuple #[.pointer (some ⟨b, 0, none⟩), .int .i64 0]) ∧ Tr w' _ b v mb kept.length t (told (kept.zip (upTo q))) kept.length ∧ OnlyIn [] _ w') (fun e w' ⟨ho, h⟩ => by
              rw [hkn] at hb
              rcases h with ⟨hbad, -⟩ | ⟨-, ⟨hno, -⟩ | ⟨t', b, v, mb, hs, he, hT⟩⟩
              · exfalso
                rcases hbad with hbad | hbad | hbad | hbad
                · exact hbad (by rw [hlu, hkn])
                · omega
                · omega
                · rw [hKO.2.1] at hbad; cases hbad
              · rw [hb] at hno; cases hno
              · rw [hb] at hs
                injection hs with hs
                subst hs
                exact ⟨b, v, mb, he, hT, ho⟩)
            have HE := Lib.hid (And.intro hto2 (And.intro hKT (And.intro hb (And.intro hs2 hkn))))
            clear hmk hKO hKT hkn hs2 hto2 hlu hsn ht2 hb
            go_wp2_with (go_at_call 38; refine hmk2.mono ?_; rintro e w3 ⟨b, v, mb, rfl, hT3, ht3⟩)
            go_ret2
            obtain ⟨hto2, hKT, hb, hs2, hkn⟩ := HE.out
            exact (show MadeEnd cs w (.returned (.tuple #[.pointer (some ⟨b, 0, none⟩), .slice B q d])) _ from ⟨hto2.then ht3 (by simp), _, _, kept, hKT, rfl, by rw [hkn]; exact Rd.of_sl (hs2.only ht3 (by simp)), .inr ⟨fun e => by rw [e] at hkn; simp at hkn; omega, t, b, v, mb, rfl, hb, by rw [hkn] at hT3 ⊢; exact hT3.lower hto2.size⟩⟩)
end Go.Proofs.Ytboipjdgccbjmaa
