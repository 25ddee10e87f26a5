/-
  Package press: Plan.
-/
import Derived.Test.YtmbnmhcfafgnaaaPressFns2
import Derived.Test.YtmbnmhcfafgnaaaInv
namespace Go.Proofs.Ytmbnmhcfafgnaaa
open Go.RowKit Go.Mine Go.Shelf

attribute [local go_sem] Oper.semAt_some

abbrev plL (D H HO B0 : Nat) (o : Obj) (lv v : Value) (f want : Int) : List (Nat × Obj) :=
  [(D + 1, o), (D, .deferred (some [])), (B0, cellsO 22 [lv]), (HO, cellsO 27 [v]), (H + 1, cellsO 3 [.int .i64 want]), (H, cellsO 3 [.int .i64 f])]

/-- The state between two rounds. -/
def PlS (w : World) (vl : List Holder) (free want : Int) (D H HO B0 : Nat) (o : Obj) (lv : Value) (k : Nat) (v : Value) (f : Int) (W : World) : Prop :=
  Keep [] w W (plL D H HO B0 o lv v f want) ∧ Sl W (D + 2) 3 1 v k (intCells ((vl.take k).map (·.id))) ∧ PlanAt vl free want k f ∧ 0 ≤ f ∧ f ≤ 10000 + 64 * k

theorem plan_grown {w Wc w7 : World} {D H HO B0 : Nat} {o : Loop} {lv : Value} {Av : Option Addr} {k cv : Nat} {f want : Int} {xs : List Value} {ob : Obj} (hg : (Wc.alloc ob).grownBy w7 (Value.slice Av k cv).ownBlock)
    (hK : Keep [] w Wc (plL D H HO B0 (.loop o) lv (.slice Av k cv) f want)) (hs : Sl Wc (D + 2) 3 1 (.slice Av k cv) k xs) (hlt : H + 1 < HO ∧ HO < B0 ∧ B0 < D) (hwH : w.heap.size ≤ D + 2) : Keep [] w w7 (plL D H HO B0 (.loop o) lv (.slice Av k cv) f want) := by
  have ht : OnlyIn (Value.slice Av k cv).ownBlock.toList Wc w7 := ((OnlyIn.refl _ _).alloc _).grown hg (fun g hg => .inl (by simp [hg]))
  refine hK.step1 ht (fun g hg => .inr ?_) (fun b hb hm => ?_)
  · simp only [Option.mem_toList] at hg
    have := (hs.own_lt g hg).1
    omega
  · simp only [Option.mem_toList] at hm
    have := (hs.own_lt b hm).1
    simp at hb
    omega

set_option maxRecDepth 100000 in
set_option maxHeartbeats 4000000 in
theorem hPlan_any (w : World) (A : Option Addr) (n c : Nat) (l : List Holder) (h : Rd w 2 (.slice A n c) n (hcs l)) (hn : l.length = n) (hnc : n ≤ c) (free want : Int) :
    Calls Try.prog 16 #[.slice A n c, .int .i64 free, .int .i64 want] w fun e w' => PlanAns w l free want e w' := by
  have hch := fun w1 (ho : OnlyIn [] w w1) => hCheck_any w1 A n c l (h.cells fun p u hp => ho.cell hp (by simp)) hn hnc
  obtain ⟨j0, hj0, hy0, hy1, hy2⟩ := info_parts Try.infoI28
  by_cases hok : PlanOk l free want
  · rw [checkF_ok hok.1] at hch
    have d1 : decide (free < 0) = false := decide_eq_false (by have := hok.2.1; omega)
    have d2 : decide ((10000 : Int) < free) = false := decide_eq_false (by have := hok.2.2.1; omega)
    have d3 : decide (want < 0) = false := decide_eq_false (by have := hok.2.2.2.1; omega)
    have d4 : decide ((10000 : Int) < want) = false := decide_eq_false (by have := hok.2.2.2.2; omega)
    have HRD := Lib.hid (And.intro h hn)
    have HCH := Lib.hid hch
    have HOK := Lib.hid hok
    clear h hch hok hn
    (refine (callsIn_wide (n := 0)).1 ?_; refine callsIn_of_wp_marks Try.func16 rfl trivial ?_ rfl; simp only [Try.ntmps16, List.size_toArray, List.length_cons, List.length_nil, Nat.reduceAdd, Nat.reduceSub, Array.replicate_succ, Array.replicate_zero, List.push_toArray, List.append_toArray, List.nil_append, List.cons_append])
    gi_wp2_with fail
    generalize hw2 : World.alloc (World.alloc _ _) _ = w2
    obtain ⟨hK, hsz⟩ := (Keep.start [] w).more2 hw2
    clear hw2
    refine ⟨trivial, rfl, callsIn_wide.2 ((HCH.out _ hK.only).mono ?_)⟩
    rintro e w3 ⟨rfl, ht3⟩
    have hK3 := hK.only0 ht3
    have hs3 : w2.heap.size ≤ w3.heap.size := ht3.size
    have k0 := hK3.cell 1 0 rfl rfl
    have k1 := hK3.cell 0 0 rfl rfl
    clear hK ht3
    gi_wp2_with fail
    generalize hw3 : World.alloc w3 _ = w3b
    obtain ⟨hK3b, hs3b⟩ := hK3.more1 hw3
    simp only [List.cons_append, List.nil_append] at hK3b
    generalize hHO : w3.heap.size = HO at *
    have hs3b' : HO < w3b.heap.size := by omega
    clear hw3 hK3 k0 k1 hs3b
    refine ⟨trivial, rfl, callsIn_wide.2 ((victims_any w3b A n c).mono ?_)⟩
    rintro e w4 ⟨rfl, hw4⟩
    obtain ⟨hK4, hs4⟩ := hK3b.more1 hw4
    simp only [List.cons_append, List.nil_append] at hK4
    generalize hB0 : w3b.heap.size = B0 at *
    clear hw4 hK3b
    gi_wp2_with fail
    refine wpIn_range2 (gf := 69) (lb := #[.pointer (some ⟨B0, 0, none⟩)]) rfl (enters_of Try.func69 (by kernel_rfl) rfl) ?_
    intro rc hround
    obtain ⟨hO1, -⟩ := hK4.more2 (o0 := .deferred (some [])) (o1 := .loop (rc .ready none)) rfl
    simp only [List.cons_append, List.nil_append] at hO1
    generalize hW0 : World.alloc (World.alloc w4 _) _ = W0 at *
    clear hW0 hK4
    generalize w4.heap.size = D at *
    generalize hH : w.heap.size = H at *
    have hO2 : Keep [] w W0 (plL D H HO B0 (.loop (rc .ready none)) (.slice A n c) (.slice none 0 0) free want) := hO1
    have hlt : H + 1 < HO ∧ HO < B0 ∧ B0 < D := by omega
    clear hO1 hs4 hs3 hs3b' hsz hB0
    have hrd := fun W (ho : OnlyIn [] w W) => HRD.out.1.cells (w' := W) fun p u hp => ho.cell hp (by simp)
    have HRR := Lib.hid hrd
    have HRO := Lib.hid @hround
    have hv64 := vict_len HOK.out.1
    have hwH : w.heap.size ≤ D + 2 := by omega
    refine (vict1_any (D + 1) B0 (.slice A n c) l HOK.out.1
      (fun F k W => ∃ v f, PlS w (vict l) free want D H HO B0 (.loop (rc .ready none)) (.slice A n c) k v f W ∧ (∀ b ∈ [D + 1, D, B0, HO, H + 1, H], b ∉ F) ∧ (∀ g ∈ F, w.heap.size ≤ g) ∧ (∀ g ∈ F, v.ownBlock ≠ some g))
      (fun k W => ∃ m v f, m ≤ (vict l).length ∧ want ≤ f ∧ PlS w (vict l) free want D H HO B0 (.loop (rc .done (some (.exit 0)))) (.slice A n c) m v f W) ?hL ?hS ?hY _ ⟨_, _, ⟨hO2, Sl.nil _ _ _ _, PlanAt.start _ _ _, HOK.out.2.1, by have := HOK.out.2.2.1; omega⟩, by simp, by simp, by simp⟩).mono ?_
    case hL =>
      rintro F k W ⟨v, f, ⟨hK, -⟩, -⟩
      exact ⟨hK.blk 2 rfl, by rw [HRD.out.2]; exact hrd _ hK.only⟩
    case hS =>
      rintro k F F' W W' ⟨v, f, ⟨hK, hs, hP, hf⟩, h1, h2, h3⟩ ht hF
      have hKn : CK w (plL D H HO B0 (.loop (rc .ready none)) (.slice A n c) v f want) F W := ⟨hK, h1, h2⟩
      obtain ⟨k1, k2, k3⟩ := hKn.next ht hF
      refine ⟨v, f, ⟨k1, hs.only ht (fun g hg hm => h3 g hm hg), hP, hf⟩, k2, k3, fun g hg e => ?_⟩
      rcases hF g hg with h | h
      · exact h3 g h e
      · have := (hs.own_lt g e).2; omega
    case hY =>
      rintro F k x W ⟨v, f, ⟨hK, hs, hP, hf1, hf2⟩, h1, h2, h3⟩ hx hFl
      refine hround _ W _ rfl (hK.at_ 0 _ _ rfl) ?_
      clear hround hrd hO2
      have hkl := (List.getElem?_eq_some_iff.1 hx).1
      have HFL := Lib.hid hFl
      have hxb := vict_fr HOK.out.1 hx
      obtain ⟨Av, cv, rfl, hcv⟩ := hs.val
      generalize hQQ : outOf _ _ _ = QQ
      gi_wp2_with fail
      refine ⟨hK.at_ 0 _ _ rfl, ?_⟩
      have hKb := hK.put 0 rfl (.loop (rc .busy none))
      simp only [List.set_cons_zero] at hKb
      have htb : OnlyIn ((D + 1) :: HO :: H :: (Value.slice Av k cv).ownBlock.toList) W (W.putObj (D + 1) (.loop (rc .busy none))) := (OnlyIn.refl _ _).putObj (.inl (by simp)) _
      have hsb : Sl (W.putObj (D + 1) (.loop (rc .busy none))) (D + 2) 3 1 (.slice Av k cv) k (intCells (((vict l).take k).map (·.id))) := hs.only ((OnlyIn.refl [D + 1] W).putObj (.inl (by simp)) _) (fun g hg hm => by have := (hs.own_lt g hg).1; simp at hm; omega)
      generalize W.putObj (D + 1) _ = Wc at hKb htb hsb ⊢
      have cf := hKb.cell 5 0 rfl rfl
      have cw := hKb.cell 4 0 rfl rfl
      have cv0 := hKb.cell 3 0 rfl rfl
      have hF := fun W' (ht : OnlyIn ((D + 1) :: HO :: H :: (Value.slice Av k cv).ownBlock.toList) W W') => (show W.heap.size ≤ W'.heap.size ∧ ∀ g ∈ F, W'.heap[g]? = W.heap[g]? from ⟨ht.size, fun g hg => ht.block g (hFl g hg) (fun hm => by
        simp only [List.mem_cons, Option.mem_toList] at hm
        rcases hm with rfl | rfl | rfl | hm
        · exact h1 _ (by simp) hg
        · exact h1 _ (by simp) hg
        · exact h1 _ (by simp) hg
        · exact h3 g hg hm)⟩)
      have HA := Lib.hid (And.intro hKb (And.intro htb (And.intro hsb (And.intro hF (And.intro hP (And.intro h1 (And.intro h2 (And.intro h3 hx))))))))
      clear hKb htb hsb hF hP h1 h2 h3 hK hs hx hFl
      by_cases hw : want ≤ f
      · have d5 : decide (want ≤ f) = true := decide_eq_true hw
        gi_wp2_with fail
        rw [← hQQ]
        refine ⟨HA.out.1.at_ 0 _ _ rfl, .inr ⟨rfl, k, .slice Av k cv, f, by omega, hw, HA.out.1.put 0 rfl (.loop (rc .done (some (.exit 0)))), ?_, HA.out.2.2.2.2.1, hf1, hf2⟩⟩
        exact HA.out.2.2.1.only ((OnlyIn.refl [D + 1] Wc).putObj (.inl (by simp)) _) (fun g hg hm => by have := (HA.out.2.2.1.own_lt g hg).1; simp at hm; omega)
      · have d5 : decide (want ≤ f) = false := decide_eq_false hw
        have hPs := HA.out.2.2.2.2.1.step HA.out.2.2.2.2.2.2.2.2 hw
        have htk := take_snoc (vict l) hkl
        rw [show (vict l)[k]'hkl = x from by have := HA.out.2.2.2.2.2.2.2.2; rw [List.getElem?_eq_getElem hkl] at this; injection this] at htk
        obtain ⟨xi, hxi⟩ : ∃ z, x.id = z := ⟨_, rfl⟩
        obtain ⟨xf, hxf⟩ : ∃ z, x.fr = z := ⟨_, rfl⟩
        rw [hxf] at hPs hxb
        have hids : ((vict l).take (k + 1)).map (·.id) = ((vict l).take k).map (·.id) ++ [xi] := by rw [htk, List.map_append]; simp [hxi]
        have hww : IntKind.i64.wrap (f + xf) = f + xf := by rw [IntKind.wrap_i64]; omega
        have hDW : D + 1 < Wc.heap.size := HA.out.1.lt (n := 0) rfl
        have hmx : k + 1 ≤ maxLen := by unfold maxLen; omega
        have hby : (k + 1) * 8 ≤ 140737488355328 := by omega
        have hbs : D + 2 ≤ (Wc.alloc (.cells (intCells [xi]).toArray 3)).heap.size := Nat.le_trans hDW (by rw [World.size_alloc]; exact Nat.le_succ _)
        have hHOH : HO ≠ H := by omega
        have hHHO : H ≠ HO := by omega
        rw [hxi, hxf]
        have HB := Lib.hid (And.intro hPs hids)
        clear hPs htk hxi hxf hids
        gi_wp2_with (gi_at_builtin; refine wpListIn_append_sl rfl _ _ 27 rfl (D + 2) 3 j0 _ 1 8 Try.underlying27 hj0 hy0 hy1 hy2 rfl (by decide) (.slice Av k cv) k _ rfl (HA.out.2.2.1.alloc _) _ 1 (intCells [xi]) rfl (Rd.lit Wc (intCells [xi]) 3 1 rfl) (intCells_one _) hmx hby hbs ?_; intro v7 w7 hs7 hg7 hat7; obtain ⟨B7, d7, rfl, hd7⟩ := hs7.val; have hK7 := plan_grown hg7 HA.out.1 HA.out.2.2.1 hlt hwH; have e0 := hK7.cell 5 0 rfl rfl; have e1 := hK7.cell 3 0 rfl rfl; have g0 := hK7.free 5 0 rfl; have g1 := hK7.free 3 0 rfl)
        rw [← hQQ]
        have hS := ((hK7.set 3 0 rfl (.slice B7 (k + 1) d7)).set 5 0 rfl (.int .i64 (f + xf)))
        simp only [List.set_cons_succ, List.set_cons_zero] at hS
        have hown := fun g (hg : (Value.slice B7 (k + 1) d7).ownBlock = some g) => (hs7.own_lt g hg).1
        have hs8 := ((hs7.setCell (p := ⟨HO, 0, none⟩) (fun e => by have := hown _ e; simp only at this; omega) (.slice B7 (k + 1) d7)).setCell (p := ⟨H, 0, none⟩) (fun e => by have := hown _ e; simp only at this; omega) (.int .i64 (f + xf)))
        have ht8 : OnlyIn ((D + 1) :: HO :: H :: (Value.slice Av k cv).ownBlock.toList) W (((w7.setCell ⟨HO, 0, none⟩ (.slice B7 (k + 1) d7)).setCell ⟨H, 0, none⟩ (.int .i64 (f + xf))).putObj (D + 1) (.loop (rc .ready none))) :=
          ((((HA.out.2.1.alloc _).grown hg7 (fun g hg => .inl (by simp [hg]))).setCell (.inl (by simp)) _).setCell (.inl (by simp)) _).putObj (.inl (by simp)) _
        refine ⟨hS.at_ 0 _ _ rfl, .inl ⟨rfl, ⟨.slice B7 (k + 1) d7, f + xf, ⟨hS.put 0 rfl (.loop (rc .ready none)), ?_, HB.out.1, by omega, by omega⟩, HA.out.2.2.2.2.2.1, HA.out.2.2.2.2.2.2.1, fun g hg e => ?_⟩, HA.out.2.2.2.1 _ ht8⟩⟩
        · rw [HB.out.2, intCells_append]
          exact hs8.only ((OnlyIn.refl [D + 1] _).putObj (.inl (by simp)) _) (fun g hg hm => by have := hown g hg; simp at hm; omega)
        · rcases hat7 g e with h | h
          · exact HA.out.2.2.2.2.2.2.2.1 g hg h
          · have h1 := HA.out.2.1.size
            rw [World.size_alloc] at h
            have := HFL.out g hg
            omega
    rintro e W2 ⟨⟨u, rfl⟩, (⟨F, v, f, ⟨hK, hs, hP, hf1, hf2⟩, -⟩ | ⟨k, hk, m, v, f, hm, hw, hK, hs, hP, hf1, hf2⟩)⟩
    · refine ⟨⟨_, rfl⟩, .inl ⟨hK.at_ 0 _ _ rfl, ?_⟩⟩
      have hOb := hK.put 0 rfl (.loop (rc .exhausted none))
      simp only [List.set_cons_zero] at hOb
      have hs2 := hs.only (OnlyIn.putObj (l := D + 1) (OnlyIn.refl [D + 1] W2) (.inl (by simp)) (.loop (rc .exhausted none))) (fun g hg hm => by have := (hs.own_lt g hg).1; simp at hm; omega)
      generalize W2.putObj (D + 1) (.loop (rc .exhausted none)) = Wc at hOb hs2 ⊢
      clear hK
      have c3 := hOb.cell 3 0 rfl rfl
      have c5 := hOb.cell 5 0 rfl rfl
      have HO := Lib.hid (And.intro hOb (And.intro hs2 hP))
      clear hOb hs2 hP hs hO2 hrd hround
      gi_wp2_with fail
      have mixed : Try.prog.follows .mixedOrders = true := by kernel_rfl
      (refine Go.Mine.wpIn_region_inv (by first | exact Go.Mine.Open.wide | exact Go.Mine.Open.inRound _) (Go.Mine.OnlyIn [] _) (by assumption) (by kernel_rfl) (by kernel_rfl) (by rintro ⟨_, _, h⟩; first | exact h.elim | (obtain ⟨_, h, _⟩ := h; cases h)) ((Go.Mine.OnlyIn.refl _ _).drew) ?_; (repeat (first | (refine Go.Mine.wpInv_run _ (by first | rfl | go_simp) (fun W hW => by (have q0 := hW.cell c3 (by simp); have q1 := hW.cell c5 (by simp); go_simp; first | exact ⟨rfl, hW⟩ | exact rfl)) ?_; go_simp) | (refine Go.Mine.wpInv_skip (by first | rfl | go_simp) ?_; go_simp))); refine Go.Mine.wpInv_nil ?_; intro W hW; have q0 := hW.cell c3 (by simp); have q1 := hW.cell c5 (by simp))
      gi_wp2_with fail
      have hO3 := HO.out.1.only0 hW
      have hs3 := HO.out.2.1.only hW (by simp)
      have hP3 := hO3.put 1 rfl (.deferred none)
      refine leave_marks (D := D) rfl (hO3.at_ 1 _ _ rfl) (results_tmp3 rfl _ _ _) ?_
      exact planAns_ok HOK.out (HO.out.2.2.stop (.inr (Nat.le_refl _))) (Nat.le_refl _) ((hs3.only ((OnlyIn.refl [D] W).putObj (.inl (by simp)) _) (fun g hg hm => by have := (hs3.own_lt g hg).1; simp at hm; omega)).mono hwH) hP3.only
    · refine ⟨⟨_, rfl⟩, .inr ⟨_, hK.at_ 0 _ _ rfl, ?_⟩⟩
      have hOb := hK.put 0 rfl (.loop (rc .exhausted (some (.exit 0))))
      simp only [List.set_cons_zero] at hOb
      have hs2 := hs.only (OnlyIn.putObj (l := D + 1) (OnlyIn.refl [D + 1] W2) (.inl (by simp)) (.loop (rc .exhausted (some (.exit 0))))) (fun g hg hm => by have := (hs.own_lt g hg).1; simp at hm; omega)
      generalize W2.putObj (D + 1) _ = Wc at hOb hs2 ⊢
      clear hK
      have c3 := hOb.cell 3 0 rfl rfl
      have c5 := hOb.cell 5 0 rfl rfl
      have HO := Lib.hid (And.intro hOb (And.intro hs2 hP))
      clear hOb hs2 hP hs hO2 hrd hround
      gi_wp2_with fail
      have mixed : Try.prog.follows .mixedOrders = true := by kernel_rfl
      (refine Go.Mine.wpIn_region_inv (by first | exact Go.Mine.Open.wide | exact Go.Mine.Open.inRound _) (Go.Mine.OnlyIn [] _) (by assumption) (by kernel_rfl) (by kernel_rfl) (by rintro ⟨_, _, h⟩; first | exact h.elim | (obtain ⟨_, h, _⟩ := h; cases h)) ((Go.Mine.OnlyIn.refl _ _).drew) ?_; (repeat (first | (refine Go.Mine.wpInv_run _ (by first | rfl | go_simp) (fun W hW => by (have q0 := hW.cell c3 (by simp); have q1 := hW.cell c5 (by simp); go_simp; first | exact ⟨rfl, hW⟩ | exact rfl)) ?_; go_simp) | (refine Go.Mine.wpInv_skip (by first | rfl | go_simp) ?_; go_simp))); refine Go.Mine.wpInv_nil ?_; intro W hW; have q0 := hW.cell c3 (by simp); have q1 := hW.cell c5 (by simp))
      gi_wp2_with fail
      have hO3 := HO.out.1.only0 hW
      have hs3 := HO.out.2.1.only hW (by simp)
      have hP3 := hO3.put 1 rfl (.deferred none)
      refine leave_marks (D := D) rfl (hO3.at_ 1 _ _ rfl) (results_tmp3 rfl _ _ _) ?_
      exact planAns_ok HOK.out (HO.out.2.2.stop (.inl hw)) (hm) ((hs3.only ((OnlyIn.refl [D] W).putObj (.inl (by simp)) _) (fun g hg hm => by have := (hs3.own_lt g hg).1; simp at hm; omega)).mono hwH) hP3.only
  · have HB := Lib.hid (fun w' (ht : OnlyIn [] w w') => planAns_bad (l := l) (free := free) (want := want) hok ht)
    have hbad : checkF l = 2 ∨ (checkF l = 0 ∧ (free < 0 ∨ 10000 < free ∨ want < 0 ∨ 10000 < want)) := by
      rcases checkF_cases l with ⟨hO, e⟩ | ⟨hO, e⟩
      · refine .inr ⟨e, ?_⟩
        refine Decidable.byContradiction fun hc => hok ⟨hO, ?_⟩
        omega
      · exact .inl e
    obtain ⟨ch, hch2⟩ : ∃ ch, checkF l = ch := ⟨_, rfl⟩
    rw [hch2] at hch hbad
    clear h hok hn hch2
    go_enter Try.func16, Try.ntmps16
    go_wp2_with fail
    generalize hw2 : World.alloc (World.alloc _ _) _ = w2
    obtain ⟨hK, -⟩ := (Keep.start [] w).more2 hw2
    clear hw2
    refine (hch _ hK.only).mono ?_
    rintro e w3 ⟨rfl, ht3⟩
    have hK3 := hK.only0 ht3
    have k0 := hK3.cell 1 0 rfl rfl
    have k1 := hK3.cell 0 0 rfl rfl
    have HK := Lib.hid hK3.only
    clear hK hK3 ht3 hch
    rcases hbad with rfl | ⟨rfl, hb⟩
    · go_wp2_with fail
      go_ret3
      exact HB.out _ HK.out
    · by_cases h1 : free < 0
      · have d1 : decide (free < 0) = true := decide_eq_true h1
        go_wp2_with fail
        go_ret3
        exact HB.out _ HK.out
      have d1 : decide (free < 0) = false := decide_eq_false h1
      by_cases h2 : 10000 < free
      · have d2 : decide ((10000 : Int) < free) = true := decide_eq_true h2
        go_wp2_with fail
        go_ret3
        exact HB.out _ HK.out
      have d2 : decide ((10000 : Int) < free) = false := decide_eq_false h2
      by_cases h3 : want < 0
      · have d3 : decide (want < 0) = true := decide_eq_true h3
        go_wp2_with fail
        go_ret3
        exact HB.out _ HK.out
      have d3 : decide (want < 0) = false := decide_eq_false h3
      have h4 : 10000 < want := by omega
      have d4 : decide ((10000 : Int) < want) = true := decide_eq_true h4
      go_wp2_with fail
      go_ret3
      exact HB.out _ HK.out
end Go.Proofs.Ytmbnmhcfafgnaaa
