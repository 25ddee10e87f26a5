/-
  Package kind: Of, and the reference's.
-/
import Derived.Test.YtheihohojmcbiaaKind
import Derived.Deep.MidRow
namespace Go.Mine
theorem res_agg_int {P : Program} {w : World} {fn : Func} {p q : Tmp} {b c : Nat} {t1 t2 : TypeId} {x y : Value} (h : fn.results = #[.cell p t1, .cell q t2]) (tmps : Array Value)
    (hp : tmps.getD p undef = .pointer (some ⟨b, 0, none⟩)) (hq : tmps.getD q undef = .pointer (some ⟨c, 0, none⟩))
    (h1 : (loadVar t1 ⟨b, 0, none⟩).run P w = .ok x w) (h2 : (loadVar t2 ⟨c, 0, none⟩).run P w = .ok y w) : (results fn tmps).run P w = .ok (.tuple #[x, y]) w := res2_cells h tmps hp hq h1 h2
theorem wpListIn_loads {P : Program} {F : Fence} {k : Nat} {ops : Array Oper} {rest : List Oper} {o : Oper} {a : Act} {w : World} {Q : Exit → Act → World → Prop} (hgd : o.guard = none) (ty : TypeId) (x : Operand) (ho : o.op = .load ty x)
    (p : Value) (hx : a.eval x = p) (v : Value) (hl : (Instr.loadAt ty p).run P w = .ok v w) (h : wpListIn F k P ops Q rest (a.put o.dst v) w) : wpListIn F k P ops Q (o :: rest) a w := by
  refine wpListIn_plain hgd fun K hK' => ?_
  unfold Oper.wpIn
  refine ⟨?_, ?_⟩
  · simp [Oper.about, ho]
  · rw [Oper.semAt_plain F _ _ (by rw [ho]; intro c hc'; cases hc')]
    simp [execOp, ho, hx, hl, Result.andThen, Sem.run_bind]
    exact hK' _ _ h
theorem wpListIn_stores {P : Program} {F : Fence} {k : Nat} {ops : Array Oper} {rest : List Oper} {o : Oper} {a : Act} {w w' : World} {Q : Exit → Act → World → Prop} (hgd : o.guard = none) (ty : TypeId) (x y : Operand) (ho : o.op = .store ty x y)
    (p v : Value) (hx : a.eval x = p) (hy : a.eval y = v) (hl : (Instr.storeAt ty p v).run P w = .ok () w') (h : wpListIn F k P ops Q rest (a.put o.dst undef) w') : wpListIn F k P ops Q (o :: rest) a w := by
  refine wpListIn_plain hgd fun K hK' => ?_
  unfold Oper.wpIn
  refine ⟨?_, ?_⟩
  · simp [Oper.about, ho]
  · rw [Oper.semAt_plain F _ _ (by rw [ho]; intro c hc'; cases hc')]
    simp [execOp, ho, hx, hy, hl, Result.andThen, Sem.run_bind]
    exact hK' _ _ h
theorem there5 {w : World} {b : Nat} {t : TypeId} {x0 x1 x2 x3 x4 : Value} (h : Blk w b t [x0, x1, x2, x3, x4]) : w.there b 0 5 := fun j hj => by
  rw [Nat.zero_add]
  refine ⟨?_, h.free j⟩
  rcases (by omega : j = 0 ∨ j = 1 ∨ j = 2 ∨ j = 3 ∨ j = 4) with rfl | rfl | rfl | rfl | rfl
  · rw [h.cell (i := 0) rfl]; rfl
  · rw [h.cell (i := 1) rfl]; rfl
  · rw [h.cell (i := 2) rfl]; rfl
  · rw [h.cell (i := 3) rfl]; rfl
  · rw [h.cell (i := 4) rfl]; rfl
end Go.Mine
namespace Go.Proofs.Ytheihohojmcbiaa
open Go.RowKit Go.Mine Go.Shelf

attribute [local go_sem] Oper.semAt_some

abbrev partsL (n : Int) : List Value := [.bool (kOf n 0), .bool (kOf n 1), .bool (kOf n 2), .bool (kOf n 3), .bool (kOf n 4)]
abbrev ofL (D H : Nat) (o : Obj) (n : Int) (ps : List Value) (er : Int) : List (Nat × Obj) :=
  [(D + 1, o), (D, .deferred (some [])), (H + 1 + 1, cellsO 25 [.int .i64 er]), (H + 1, cellsO 33 ps), (H, cellsO 3 [.int .i64 n])]
theorem Try.sizeParts : (Try.prog.info? 33).map (·.size) = some 5 := by kernel_rfl

set_option maxRecDepth 100000 in
set_option maxHeartbeats 2000000 in
theorem kOf_any (w : World) (n : Int) : Calls Try.prog 20 #[.int .i64 n] w fun e w' => e = .returned (.tuple #[.agg (partsL n).toArray, .int .i64 (kErr n)]) ∧ OnlyIn [] w w' := by
  (refine (callsIn_wide (n := 0)).1 ?_; refine callsIn_of_wp_marks Try.func20 rfl trivial ?_ rfl; simp only [Try.ntmps20, List.size_toArray, List.length_cons, List.length_nil, Nat.reduceAdd, Nat.reduceSub, Array.replicate_succ, Array.replicate_zero, List.push_toArray, List.append_toArray, List.nil_append, List.cons_append])
  gi_wp2_with fail
  generalize hw2 : World.alloc (World.alloc _ _) _ = w2
  obtain ⟨hO, hsz⟩ := (Keep.start [] w).more3 hw2
  clear hw2
  refine ⟨trivial, rfl, callsIn_wide.2 ((kall_any w2).mono ?_)⟩
  rintro e w3 ⟨rfl, rfl⟩
  gi_wp2_with fail
  refine wpIn_range2 (gf := 74) (lb := #[]) rfl (enters_of Try.func74 (by kernel_rfl) rfl) ?_
  intro rc hround
  obtain ⟨hO1, -⟩ := hO.more2 (o0 := .deferred (some [])) (o1 := .loop (rc .ready none)) rfl
  simp only [List.cons_append, List.nil_append] at hO1
  generalize hW0 : World.alloc (World.alloc w2 _) _ = W0 at *
  clear hW0 hO
  generalize w2.heap.size = D at *
  generalize hH : w.heap.size = H at *
  clear hsz
  have hO2 : Keep [] w W0 (ofL D H (.loop (rc .ready none)) n [.bool false, .bool false, .bool false, .bool false, .bool false] 0) := hO1
  clear hO1
  refine (kall1_any (D + 1)
    (fun k W => Keep [] w W (ofL D H (.loop (rc .ready none)) n [.bool false, .bool false, .bool false, .bool false, .bool false] 0) ∧ (n < 1 ∨ (k : Int) < n))
    (fun k W => Keep [] w W (ofL D H (.loop (rc .done (some .ret))) n (partsL n) 0) ∧ 1 ≤ n ∧ n ≤ 10) ?hS ?hY _ ⟨hO2, by omega⟩).mono ?_
  case hS =>
    rintro k W W' ht ⟨h1, h2⟩
    exact ⟨h1.only0 ht, h2⟩
  case hY =>
    rintro k W hk ⟨hO, hn⟩
    refine hround _ W _ rfl (hO.at_ 0 _ _ rfl) ?_
    gi_wp2_with fail
    generalize hWb : World.alloc W _ = Wb
    obtain ⟨hOa, -⟩ := hO.more1 hWb
    clear hWb hO
    simp only [List.cons_append, List.nil_append] at hOa
    refine ⟨hOa.at_ 1 _ _ rfl, ?_⟩
    have hOb := hOa.put 1 rfl (.loop (rc .busy none))
    simp only [List.set_cons_succ, List.set_cons_zero] at hOb
    generalize Wb.putObj (D + 1) (.loop (rc .busy none)) = Wc at hOb ⊢
    generalize W.heap.size = X at hOb hOa ⊢
    clear hOa hround
    have cn := hOb.cell 5 0 rfl rfl
    have cx0 := hOb.cell 0 1 rfl rfl
    have cx1 := hOb.cell 0 2 rfl rfl
    have cx2 := hOb.cell 0 3 rfl rfl
    have cx3 := hOb.cell 0 4 rfl rfl
    have cx4 := hOb.cell 0 5 rfl rfl
    have cp0 := hOb.cell 4 0 rfl rfl
    have cp1 := hOb.cell 4 1 rfl rfl
    have cp2 := hOb.cell 4 2 rfl rfl
    have cp3 := hOb.cell 4 3 rfl rfl
    have cp4 := hOb.cell 4 4 rfl rfl
    have ce := hOb.cell 3 0 rfl rfl
    have fp0 := hOb.free 4 0 rfl
    have fp1 := hOb.free 4 1 rfl
    have fp2 := hOb.free 4 2 rfl
    have fp3 := hOb.free 4 3 rfl
    have fp4 := hOb.free 4 4 rfl
    have fe := hOb.free 3 0 rfl
    have HO := Lib.hid hOb
    clear hOb
    generalize hQQ : outOf _ _ _ = QQ
    by_cases hkn : (k : Int) + 1 = n
    · have bn : ((k : Int) + 1 == n) = true := by simp; exact hkn
      have hpar : ∀ j, kOf n j = kpart k j := fun j => by
        unfold kOf
        rw [if_pos (by omega), show (n - 1).toNat = k by omega]
      have HP := Lib.hid (And.intro hpar (show 1 ≤ n ∧ n ≤ 10 by omega))
      clear hkn hn hpar hO2 hk
      gi_wp2_with fail
      rw [← hQQ]
      have hS := ((((((HO.out.set 4 0 rfl (.bool (kpart k 0))).set 4 1 rfl (.bool (kpart k 1))).set 4 2 rfl (.bool (kpart k 2))).set 4 3 rfl (.bool (kpart k 3))).set 4 4 rfl (.bool (kpart k 4))).set 3 0 rfl (.int .i64 0))
      refine ⟨hS.at_ 1 _ _ rfl, .inr ⟨rfl, ?_, HP.out.2⟩⟩
      have hF := (hS.put 1 rfl (.loop (rc .done (some .ret)))).sub (List.Sublist.cons _ (List.Sublist.refl _))
      unfold partsL
      rw [HP.out.1, HP.out.1, HP.out.1, HP.out.1, HP.out.1]
      exact hF
    · have bn : ((k : Int) + 1 == n) = false := by simp; exact hkn
      have hn2 : n < 1 ∨ ((k + 1 : Nat) : Int) < n := by omega
      have HP := Lib.hid hn2
      clear hkn hn hn2
      gi_wp2_with fail
      rw [← hQQ]
      refine ⟨HO.out.at_ 1 _ _ rfl, .inl ⟨rfl, ?_, HP.out⟩⟩
      exact (HO.out.put 1 rfl (.loop (rc .ready none))).sub (List.Sublist.cons _ (List.Sublist.refl _))
  rintro e W2 ⟨⟨u, rfl⟩, (⟨hO, hn⟩ | ⟨k, hk, hO, hn1, hn2⟩)⟩
  · refine ⟨⟨_, rfl⟩, .inl ⟨hO.at_ 0 _ _ rfl, ?_⟩⟩
    have hOb := hO.put 0 rfl (.loop (rc .exhausted none))
    generalize W2.putObj (D + 1) (.loop (rc .exhausted none)) = Wc at hOb ⊢
    clear hO hround
    have cp0 := hOb.cell 3 0 rfl rfl
    have cp1 := hOb.cell 3 1 rfl rfl
    have cp2 := hOb.cell 3 2 rfl rfl
    have cp3 := hOb.cell 3 3 rfl rfl
    have cp4 := hOb.cell 3 4 rfl rfl
    have ce := hOb.cell 2 0 rfl rfl
    have fp0 := hOb.free 3 0 rfl
    have fp1 := hOb.free 3 1 rfl
    have fp2 := hOb.free 3 2 rfl
    have fp3 := hOb.free 3 3 rfl
    have fp4 := hOb.free 3 4 rfl
    have fe := hOb.free 2 0 rfl
    have hpar : ∀ j, kOf n j = false := fun j => by
      unfold kOf
      rw [if_neg (by omega)]
    have her : kErr n = 18 := by unfold kErr; rw [if_neg (by omega)]
    have HO := Lib.hid (And.intro hOb (And.intro hpar her))
    clear hOb hpar her
    gi_wp2_with fail
    obtain ⟨hOb, hpar, her⟩ := HO.out
    have hS := ((((((hOb.set 3 0 rfl (.bool false)).set 3 1 rfl (.bool false)).set 3 2 rfl (.bool false)).set 3 3 rfl (.bool false)).set 3 4 rfl (.bool false)).set 2 0 rfl (.int .i64 18))
    have hP := hS.put 1 rfl (.deferred none)
    unfold partsL
    rw [hpar, hpar, hpar, hpar, hpar, her]
    exact leave_marks (D := D) rfl (hS.at_ 1 _ _ rfl) (res_agg_int rfl _ rfl rfl (loadVar_blk (hP.blk 3 rfl) Try.underlying33 rfl Try.sizeParts) (load_int (hP.blk 2 rfl) Try.underlying25)) ⟨rfl, hP.only⟩
  · refine ⟨⟨_, rfl⟩, .inr ⟨_, hO.at_ 0 _ _ rfl, ?_⟩⟩
    have hOb := hO.put 0 rfl (.loop (rc .exhausted (some .ret)))
    generalize W2.putObj (D + 1) _ = Wc at hOb ⊢
    have her : kErr n = 0 := by unfold kErr; rw [if_pos ⟨hn1, hn2⟩]
    gi_wp2_with fail
    have hP := hOb.put 1 rfl (.deferred none)
    exact leave_marks (D := D) rfl (hOb.at_ 1 _ _ rfl) (res_agg_int rfl _ rfl rfl (loadVar_blk (hP.blk 3 rfl) Try.underlying33 rfl Try.sizeParts) (load_int (hP.blk 2 rfl) Try.underlying25)) ⟨rfl, hP.only⟩
set_option maxRecDepth 100000 in
theorem rkOf_any (w : World) (n : Int) : Calls Try.prog 21 #[.int .i64 n] w fun e w' => e = .returned (.tuple #[.agg (partsL n).toArray, .int .i64 (kErr n)]) ∧ OnlyIn [] w w' := by
  by_cases hr : 1 ≤ n ∧ n ≤ 10
  · rcases (by omega : n = 1 ∨ n = 2 ∨ n = 3 ∨ n = 4 ∨ n = 5 ∨ n = 6 ∨ n = 7 ∨ n = 8 ∨ n = 9 ∨ n = 10) with rfl | rfl | rfl | rfl | rfl | rfl | rfl | rfl | rfl | rfl
    · go_enter Try.func21, Try.ntmps21
      go_wp2_with fail
      exact bodyPost_ret (results_row_tmp rfl _ rfl ((Blk.new w 33 [.bool true, .bool false, .bool false, .bool false, .bool false]).alloc _) Try.underlying33 rfl Try.sizeParts) rfl ⟨rfl, ((OnlyIn.refl _ _).alloc _).alloc _⟩
    · go_enter Try.func21, Try.ntmps21
      go_wp2_with fail
      exact bodyPost_ret (results_row_tmp rfl _ rfl ((Blk.new w 33 [.bool true, .bool true, .bool false, .bool false, .bool false]).alloc _) Try.underlying33 rfl Try.sizeParts) rfl ⟨rfl, ((OnlyIn.refl _ _).alloc _).alloc _⟩
    · go_enter Try.func21, Try.ntmps21
      go_wp2_with fail
      exact bodyPost_ret (results_row_tmp rfl _ rfl ((Blk.new w 33 [.bool false, .bool false, .bool false, .bool false, .bool true]).alloc _) Try.underlying33 rfl Try.sizeParts) rfl ⟨rfl, ((OnlyIn.refl _ _).alloc _).alloc _⟩
    · go_enter Try.func21, Try.ntmps21
      go_wp2_with fail
      exact bodyPost_ret (results_row_tmp rfl _ rfl ((Blk.new w 33 [.bool false, .bool true, .bool false, .bool false, .bool true]).alloc _) Try.underlying33 rfl Try.sizeParts) rfl ⟨rfl, ((OnlyIn.refl _ _).alloc _).alloc _⟩
    · go_enter Try.func21, Try.ntmps21
      go_wp2_with fail
      exact bodyPost_ret (results_row_tmp rfl _ rfl ((Blk.new w 33 [.bool false, .bool false, .bool true, .bool false, .bool false]).alloc _) Try.underlying33 rfl Try.sizeParts) rfl ⟨rfl, ((OnlyIn.refl _ _).alloc _).alloc _⟩
    · go_enter Try.func21, Try.ntmps21
      go_wp2_with fail
      exact bodyPost_ret (results_row_tmp rfl _ rfl ((Blk.new w 33 [.bool false, .bool false, .bool true, .bool false, .bool true]).alloc _) Try.underlying33 rfl Try.sizeParts) rfl ⟨rfl, ((OnlyIn.refl _ _).alloc _).alloc _⟩
    · go_enter Try.func21, Try.ntmps21
      go_wp2_with fail
      exact bodyPost_ret (results_row_tmp rfl _ rfl ((Blk.new w 33 [.bool false, .bool true, .bool true, .bool false, .bool true]).alloc _) Try.underlying33 rfl Try.sizeParts) rfl ⟨rfl, ((OnlyIn.refl _ _).alloc _).alloc _⟩
    · go_enter Try.func21, Try.ntmps21
      go_wp2_with fail
      exact bodyPost_ret (results_row_tmp rfl _ rfl ((Blk.new w 33 [.bool false, .bool false, .bool true, .bool true, .bool false]).alloc _) Try.underlying33 rfl Try.sizeParts) rfl ⟨rfl, ((OnlyIn.refl _ _).alloc _).alloc _⟩
    · go_enter Try.func21, Try.ntmps21
      go_wp2_with fail
      exact bodyPost_ret (results_row_tmp rfl _ rfl ((Blk.new w 33 [.bool false, .bool false, .bool true, .bool true, .bool true]).alloc _) Try.underlying33 rfl Try.sizeParts) rfl ⟨rfl, ((OnlyIn.refl _ _).alloc _).alloc _⟩
    · go_enter Try.func21, Try.ntmps21
      go_wp2_with fail
      exact bodyPost_ret (results_row_tmp rfl _ rfl ((Blk.new w 33 [.bool false, .bool true, .bool true, .bool true, .bool true]).alloc _) Try.underlying33 rfl Try.sizeParts) rfl ⟨rfl, ((OnlyIn.refl _ _).alloc _).alloc _⟩
  · have hp : ∀ j, kOf n j = false := fun j => by unfold kOf; rw [if_neg hr]
    have he : kErr n = 18 := by unfold kErr; rw [if_neg hr]
    unfold partsL
    rw [hp, hp, hp, hp, hp, he]
    by_cases h1 : n < 1
    · clear hp he hr
      go_enter Try.func21, Try.ntmps21
      go_wp2_with fail
      exact bodyPost_ret (results_row_tmp rfl _ rfl (Blk.new w 33 [.bool false, .bool false, .bool false, .bool false, .bool false]) Try.underlying33 rfl Try.sizeParts) rfl ⟨rfl, (OnlyIn.refl _ _).alloc _⟩
    · have h2 : 10 < n := by omega
      clear hp he hr
      go_enter Try.func21, Try.ntmps21
      go_wp2_with fail
      exact bodyPost_ret (results_row_tmp rfl _ rfl (Blk.new w 33 [.bool false, .bool false, .bool false, .bool false, .bool false]) Try.underlying33 rfl Try.sizeParts) rfl ⟨rfl, (OnlyIn.refl _ _).alloc _⟩
end Go.Proofs.Ytheihohojmcbiaa
