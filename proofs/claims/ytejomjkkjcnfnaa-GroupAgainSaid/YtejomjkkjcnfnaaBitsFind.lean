/-
  Package bits: Find, Start.
-/
import Derived.Test.YtejomjkkjcnfnaaBitsFrom
import Derived.Test.YtejomjkkjcnfnaaOwn
namespace Go.Mine
open Go.RowKit
theorem results_three_cells {P : Program} {w : World} {fn : Func} {p q r : Tmp} {b c d : Nat} {t1 t2 t3 : TypeId} {x y z : Value} (h : fn.results = #[.cell p t1, .cell q t2, .cell r t3]) (tmps : Array Value)
    (hp : tmps.getD p undef = .pointer (some ⟨b, 0, none⟩)) (hq : tmps.getD q undef = .pointer (some ⟨c, 0, none⟩)) (hr : tmps.getD r undef = .pointer (some ⟨d, 0, none⟩))
    (h1 : (loadVar t1 ⟨b, 0, none⟩).run P w = .ok x w) (h2 : (loadVar t2 ⟨c, 0, none⟩).run P w = .ok y w) (h3 : (loadVar t3 ⟨d, 0, none⟩).run P w = .ok z w) :
    (results fn tmps).run P w = .ok (.tuple #[x, y, z]) w := by
  have ha : ∀ b : Nat, (asAddr (.pointer (some ⟨b, 0, none⟩))).run P w = .ok ⟨b, 0, none⟩ w := fun _ => rfl
  simp only [results, h]
  simp only [Array.getD_eq_getD_getElem?] at hp hq hr
  simp [Sem.run_bind, Result.andThen, hp, hq, hr, ha, h1, h2, h3]
theorem results_two_cells {P : Program} {w : World} {fn : Func} {p q : Tmp} {b c : Nat} {t1 t2 : TypeId} {x y : Value} (h : fn.results = #[.cell p t1, .cell q t2]) (tmps : Array Value)
    (hp : tmps.getD p undef = .pointer (some ⟨b, 0, none⟩)) (hq : tmps.getD q undef = .pointer (some ⟨c, 0, none⟩))
    (h1 : (loadVar t1 ⟨b, 0, none⟩).run P w = .ok x w) (h2 : (loadVar t2 ⟨c, 0, none⟩).run P w = .ok y w) :
    (results fn tmps).run P w = .ok (.tuple #[x, y]) w := by
  have ha : ∀ b : Nat, (asAddr (.pointer (some ⟨b, 0, none⟩))).run P w = .ok ⟨b, 0, none⟩ w := fun _ => rfl
  simp only [results, h]
  simp only [Array.getD_eq_getD_getElem?] at hp hq
  simp [Sem.run_bind, Result.andThen, hp, hq, ha, h1, h2]
theorem loadVar_int {P : Program} {w : World} {b : Nat} {t ty : TypeId} {v : Value} {k : IntKind} (hb : Blk w b t [v]) (hu : P.underlying ty = some (.int k)) : (loadVar ty ⟨b, 0, none⟩).run P w = .ok v w := by
  have hc := hb.cell (i := 0) rfl
  simp [loadVar, isAgg, run_underlying hu, go_sem, hc]
end Go.Mine
namespace Go.Proofs.Ytejomjkkjcnfnaa
open Go.RowKit Go.Mine Go.Shelf

attribute [local go_sem] Oper.semAt_some

set_option maxRecDepth 100000 in
theorem Start_neg (w : World) (A : Option Addr) (n c : Nat) (i : Int) (hi : i < 0) : Calls Try.prog 34 #[.slice A n c, .int .i64 i] w fun e w' => e = .returned (.tuple #[.int .i64 0, .int .i64 0, .int .i64 3]) ∧ OnlyIn [] w w' := by
  go_enter Try.func34, Try.ntmps34
  go_wp2_with fail
  generalize hw5 : World.alloc _ _ = w5
  obtain ⟨hO, hsz⟩ := (Keep.start [] w).more5 hw5
  clear hw5
  exact bodyPost_ret (results_three_cells rfl _ rfl rfl rfl (loadVar_int (hO.blk 2 rfl) Try.underlying3) (loadVar_int (hO.blk 1 rfl) Try.underlying3) (loadVar_int (hO.blk 0 rfl) Try.underlying32)) rfl ⟨rfl, hO.only⟩

/-- What lies there within the loop of Start. -/
abbrev startL (D B : Nat) (o : Obj) (v : Value) (x n er : Int) (i0 : Nat) : List (Nat × Obj) :=
  [(D + 1, o), (D, .deferred (some [])), (B + 1 + 1 + 1 + 1 + 1, cellsO 28 [v]), (B + 1 + 1 + 1 + 1, cellsO 32 [.int .i64 er]), (B + 1 + 1 + 1, cellsO 3 [.int .i64 n]), (B + 1 + 1, cellsO 3 [.int .i64 x]), (B + 1, cellsO 3 [.int .i64 (i0 : Int)]), (B, cellsO 28 [v])]

set_option maxRecDepth 100000 in
set_option maxHeartbeats 4000000 in
theorem Start_any (w : World) (v : Value) (bs : List UInt8) (hr : Rd w 1 v bs.length (byteCells bs)) (hl : bs.length ≤ 1000000000) (i0 : Nat) :
    Calls Try.prog 34 #[v, .int .i64 (i0 : Int)] w fun e w' => e = .returned (.tuple #[.int .i64 (startOf bs i0).1, .int .i64 (startOf bs i0).2.1, .int .i64 (startOf bs i0).2.2]) ∧ OnlyIn [] w w' := by
  have hge : ¬ ((i0 : Int) < 0) := by omega
  obtain ⟨A, c, rfl⟩ : ∃ A c, v = .slice A bs.length c := by
    obtain ⟨-, A, c, rfl, -⟩ := hr
    exact ⟨A, c, rfl⟩
  (refine (callsIn_wide (n := 0)).1 ?_; refine callsIn_of_wp_marks Try.func34 rfl trivial ?_ rfl; simp only [Try.ntmps34, List.size_toArray, List.length_cons, List.length_nil, Nat.reduceAdd, Nat.reduceSub, Array.replicate_succ, Array.replicate_zero, List.push_toArray, List.append_toArray, List.nil_append, List.cons_append])
  gi_wp2_with fail
  generalize hw5 : World.alloc _ _ = w5
  obtain ⟨hO, hsz⟩ := (Keep.start [] w).more5 hw5
  clear hw5
  have c0 := hO.cell 4 0 rfl rfl
  have c1 := hO.cell 3 0 rfl rfl
  gi_wp2_with fail
  refine ⟨trivial, rfl, callsIn_wide.2 ((from_any w5 _ A bs.length c rfl (i0 : Int)).mono ?_)⟩
  rintro e w7 ⟨rfl, hw7⟩
  obtain ⟨hO, hsz7⟩ := hO.more2 hw7
  simp only [hsz] at hO hsz7 ⊢
  have hsa : w.heap.size + 7 ≤ w7.heap.size := by omega
  clear hw7 hsz7 c0 c1 hsz
  gi_wp2_with fail
  refine wpIn_range2 (gf := 69) (lb := #[.pointer (some ⟨w.heap.size + 1 + 1 + 1 + 1 + 1 + 1, 0, none⟩), .pointer (some ⟨w.heap.size + 1 + 1 + 1 + 1 + 1, 0, none⟩)]) rfl (enters_of Try.func69 (by kernel_rfl) rfl) ?_
  intro rc hround
  obtain ⟨hO1, -⟩ := hO.more2 (o0 := .deferred (some [])) (o1 := .loop (rc .ready none)) rfl
  simp only [List.cons_append, List.nil_append] at hO1
  generalize hW0 : World.alloc (World.alloc w7 _) _ = W0 at *
  clear hW0 hO
  generalize w7.heap.size = D at *
  have hBw : w.heap.size ≤ w.heap.size := Nat.le_refl _
  generalize hB0 : w.heap.size = B at hO1 hsa hround ⊢
  have hBB : w.heap.size ≤ B := by omega
  have hA0 : Blk W0 (B + 1 + 1 + 1 + 1 + 1 + 1) 3 [.int .i64 (i0 : Int)] := hO1.blk 2 rfl
  have hO2 : Keep [] w W0 (startL D B (.loop (rc .ready none)) (.slice A bs.length c) 0 0 0 i0) := hO1.sub (.cons_cons _ (.cons_cons _ (.cons _ (List.Sublist.refl _))))
  clear hO1 hB0 hBw
  refine (from1_any (D + 1) (B + 1 + 1 + 1 + 1 + 1 + 1) (B + 1 + 1 + 1 + 1 + 1) i0 (.slice A bs.length c) bs hl
    (fun k W => Keep [] w W (startL D B (.loop (rc .ready none)) (.slice A bs.length c) 0 0 0 i0) ∧ (∀ j, j < k → bitAt bs (i0 + j) = 0))
    (fun k W => Keep [] w W (startL D B (.loop (rc .done (some .ret))) (.slice A bs.length c) (startOf bs i0).1 (startOf bs i0).2.1 (startOf bs i0).2.2 i0)) ?hR ?hD ?hS ?hY _ hA0 ⟨hO2, fun j hj => absurd hj (by omega)⟩).mono ?_
  case hR =>
    rintro k W ⟨hO, _⟩
    exact ⟨hO.blk 2 rfl, hr.cells fun p u hp => hO.only.cell hp (by simp)⟩
  case hD =>
    rintro k m W ⟨hO, hz⟩
    exact ⟨hO.drewN m, hz⟩
  case hS =>
    rintro k u x W hA ⟨hO, hz⟩
    exact ⟨hO.step1 ((OnlyIn.refl [B + 1 + 1 + 1 + 1 + 1 + 1] W).setCell (p := ⟨B + 1 + 1 + 1 + 1 + 1 + 1, 0, none⟩) (.inl (by simp)) u) (by simp; omega) (by simp; omega), hz⟩
  case hY =>
    rintro k W hlt hA ⟨hO, hz⟩
    refine hround _ W _ rfl (hO.at_ 0 _ _ rfl) ?_
    gi_wp2_with fail
    refine ⟨hO.at_ 0 _ _ rfl, ?_⟩
    have hOb : Keep [] w (W.putObj (D + 1) (.loop (rc .busy none))) (startL D B (.loop (rc .busy none)) (.slice A bs.length c) 0 0 0 i0) := hO.put 0 rfl (.loop (rc .busy none))
    have hAb := hA.putObj (l := D + 1) (by omega) (.loop (rc .busy none))
    generalize W.putObj (D + 1) (.loop (rc .busy none)) = Wc at hOb hAb ⊢
    clear hO hA
    have c0 := hOb.cell 7 0 rfl rfl
    have c1 := hOb.cell 6 0 rfl rfl
    have c2 := hOb.cell 5 0 rfl rfl
    have c3 := hOb.cell 4 0 rfl rfl
    have c4 := hOb.cell 3 0 rfl rfl
    have f2 := hOb.free 5 0 rfl
    have f3 := hOb.free 4 0 rfl
    have f4 := hOb.free 3 0 rfl
    by_cases hx : bitAt bs (i0 + k) = 0
    · have hx0 : ((bitAt bs (i0 + k) : Nat) : Int) = 0 := by rw [hx]; rfl
      gi_wp2_with fail
      have hO3 := hOb.put 0 rfl (.loop (rc .ready none))
      refine ⟨hOb.at_ 0 _ _ rfl, .inl ⟨rfl, hAb.putObj (by omega) _, hO3, fun j hj => ?_⟩⟩
      rcases Nat.lt_or_ge j k with h | h
      · exact hz j h
      · obtain rfl : j = k := by omega
        exact hx
    · have hx1 : bitAt bs (i0 + k) = 1 := by have := bitAt_lt bs (i0 + k); omega
      have hx0 : ((bitAt bs (i0 + k) : Nat) : Int) = 1 := by rw [hx1]; rfl
      by_cases hk : k < 15
      · have hST := startOf_code hlt hz hx1 hk
        have HH := Lib.hid (And.intro hOb hST)
        clear hz hx hOb hST
        gi_wp2_with fail
        obtain ⟨hOb, hST⟩ := HH.out
        rw [hST]
        have hS := ((hOb.set 5 0 rfl (.int .i64 0)).set 4 0 rfl (.int .i64 0)).set 3 0 rfl (.int .i64 7)
        exact ⟨hS.at_ 0 _ _ rfl, .inr ⟨rfl, hS.put 0 rfl (.loop (rc .done (some .ret)))⟩⟩
      · have hrd : Rd Wc 1 (.slice A bs.length c) bs.length (byteCells bs) := hr.cells fun p u hp => hOb.only.cell hp (by simp)
        have hk15 : 15 ≤ k := by omega
        by_cases h5 : i0 + k + 5 ≤ 8 * bs.length
        · have hST := startOf_ok hz hx1 hk15 h5
          have HH := Lib.hid (And.intro hOb hST)
          clear hz hx hOb hST
          gi_wp2_with fail
          rw [show (i0 : Int) + (k : Int) + 1 = ((i0 + k + 1 : Nat) : Int) from by omega]
          refine ⟨trivial, rfl, CallsIn.inRound _ (callsIn_wide.2 ((Read_ok Wc _ bs hrd hl (i0 + k + 1) 4 (by omega) (by omega)).mono ?_))⟩
          rintro e w' ⟨rfl, rfl⟩
          gi_wp2_with fail
          have hmix := Try.mixed
          have hw1 : IntKind.i64.wrap ((i0 : Int) + (k : Int) + 5) = (i0 : Int) + (k : Int) + 5 := by rw [IntKind.wrap_i64]; omega
          have hw2 : IntKind.i64.wrap ((i0 : Int) + (k : Int) + 5 - (i0 : Int)) = (k : Int) + 5 := by rw [IntKind.wrap_i64]; omega
          have hne : ∀ p ∈ [(⟨B + 1 + 1, 0, none⟩ : Addr), ⟨B + 1 + 1 + 1, 0, none⟩, ⟨B + 1 + 1 + 1 + 1, 0, none⟩], p ≠ (⟨B + 1, 0, none⟩ : Addr) := by simp
          clear hround hr hrd
          (refine Go.Mine.wpIn_region_mix (by first | exact Go.Mine.Open.wide | exact Go.Mine.Open.inRound _) [(5, ⟨B + 1 + 1, 0, none⟩), (6, ⟨B + 1 + 1 + 1, 0, none⟩), (7, ⟨B + 1 + 1 + 1 + 1, 0, none⟩)] (by assumption) (by kernel_rfl) (by kernel_rfl) (by rintro ⟨_, _, h⟩; exact h.elim) ?_ ?_; (focus (first | (simp [List.pairwise_cons]; done) | (simp [List.pairwise_cons]; omega))); (repeat (refine Go.Mine.mix_step _ _ (by first | rfl | go_simp) (fun W hW => by (have d1 := (hW.cell hne).trans c1; obtain ⟨y2, d2⟩ := hW.ex c2; obtain ⟨y3, d3⟩ := hW.ex c3; obtain ⟨y4, d4⟩ := hW.ex c4; have e2 := (hW.frozen _).trans f2; have e3 := (hW.frozen _).trans f3; have e4 := (hW.frozen _).trans f4; go_simp; simp only [Go.Mine.Oper.mixUpon]; first | exact ⟨rfl, (show W = Go.Mine.app none W from rfl)⟩ | exact ⟨rfl, (show W.setCell _ _ = Go.Mine.app (some (_, _)) W from rfl)⟩)) (by intro p u h; cases h; try rfl) ?_; simp only [Go.Mine.app]; go_simp)); refine Go.Mine.mix_nil ?_)
          gi_wp2_with fail
          obtain ⟨hOb, hST⟩ := HH.out
          rw [hST]
          have hS := (((hOb.set 5 0 rfl (.int .i64 (numAt bs (i0 + k + 1) 4 : Int))).set 4 0 rfl (.int .i64 ((k : Int) + 5))).set 3 0 rfl (.int .i64 0)).drew
          exact ⟨hS.at_ 0 _ _ rfl, .inr ⟨rfl, hS.put 0 rfl (.loop (rc .done (some .ret)))⟩⟩
        · have hST := startOf_more hlt hz hx1 hk15 (by omega)
          have HH := Lib.hid (And.intro hOb hST)
          clear hz hx hOb hST
          gi_wp2_with fail
          refine ⟨trivial, rfl, CallsIn.inRound _ (callsIn_wide.2 ((Read_more Wc A bs.length c hl _ 4 (by omega) (by omega) (by omega) (by omega) (by omega)).mono ?_))⟩
          rintro e w' ⟨rfl, rfl⟩
          gi_wp2_with fail
          obtain ⟨hOb, hST⟩ := HH.out
          rw [hST]
          have hS := ((hOb.set 5 0 rfl (.int .i64 0)).set 4 0 rfl (.int .i64 0)).set 3 0 rfl (.int .i64 5)
          exact ⟨hS.at_ 0 _ _ rfl, .inr ⟨rfl, hS.put 0 rfl (.loop (rc .done (some .ret)))⟩⟩
  rintro e W2 ⟨⟨u, rfl⟩, (⟨hO, hz⟩ | ⟨k, hk, hO⟩)⟩
  · have hST := startOf_none hz
    refine ⟨⟨_, rfl⟩, .inl ⟨hO.at_ 0 _ _ rfl, ?_⟩⟩
    have hOb : Keep [] w (W2.putObj (D + 1) (.loop (rc .exhausted none))) (startL D B (.loop (rc .exhausted none)) (.slice A bs.length c) 0 0 0 i0) := hO.put 0 rfl (.loop (rc .exhausted none))
    generalize W2.putObj (D + 1) (.loop (rc .exhausted none)) = Wc at hOb ⊢
    clear hO
    have c2 := hOb.cell 5 0 rfl rfl
    have c3 := hOb.cell 4 0 rfl rfl
    have c4 := hOb.cell 3 0 rfl rfl
    have f2 := hOb.free 5 0 rfl
    have f3 := hOb.free 4 0 rfl
    have f4 := hOb.free 3 0 rfl
    have HH := Lib.hid (And.intro hOb hST)
    clear hOb hST hz
    gi_wp2_with fail
    obtain ⟨hOb, hST⟩ := HH.out
    rw [hST]
    have hS := ((hOb.set 5 0 rfl (.int .i64 0)).set 4 0 rfl (.int .i64 0)).set 3 0 rfl (.int .i64 5)
    have hP := hS.put 1 rfl (.deferred none)
    exact leave_marks (D := D) rfl (hS.at_ 1 _ _ rfl) (results_three_cells rfl _ rfl rfl rfl (loadVar_int (hP.blk 5 rfl) Try.underlying3) (loadVar_int (hP.blk 4 rfl) Try.underlying3) (loadVar_int (hP.blk 3 rfl) Try.underlying32)) ⟨rfl, hP.only⟩
  · refine ⟨⟨_, rfl⟩, .inr ⟨_, hO.at_ 0 _ _ rfl, ?_⟩⟩
    have hOb := hO.put 0 rfl (.loop (rc .exhausted (some .ret)))
    generalize W2.putObj (D + 1) _ = Wc at hOb ⊢
    gi_wp2_with fail
    have hP := hOb.put 1 rfl (.deferred none)
    exact leave_marks (D := D) rfl (hOb.at_ 1 _ _ rfl) (results_three_cells rfl _ rfl rfl rfl (loadVar_int (hP.blk 5 rfl) Try.underlying3) (loadVar_int (hP.blk 4 rfl) Try.underlying3) (loadVar_int (hP.blk 3 rfl) Try.underlying32)) ⟨rfl, hP.only⟩
end Go.Proofs.Ytejomjkkjcnfnaa
