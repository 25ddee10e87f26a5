/-
  Package bits: Find.
-/
import Derived.Test.YtejomjkkjcnfnaaBitsFind
namespace Go.Mine
theorem findF_step0 {bs : List UInt8} {i r n : Nat} (hn : 0 < n) (hb : bitAt bs i = 0) : findF bs i r n = findF bs (i + 1) (r + 1) (n - 1) := by
  obtain ⟨m, rfl⟩ : ∃ m, n = m + 1 := ⟨n - 1, by omega⟩
  rw [findF, if_pos hb]; rfl
theorem findF_step1 {bs : List UInt8} {i r n : Nat} (hn : 0 < n) (hb : bitAt bs i = 1) (hr : r < 15) : findF bs i r n = findF bs (i + 1) 0 (n - 1) := by
  obtain ⟨m, rfl⟩ : ∃ m, n = m + 1 := ⟨n - 1, by omega⟩
  rw [findF, if_neg (by omega), if_neg (by omega)]; rfl
theorem findF_stop {bs : List UInt8} {i r n : Nat} (hn : 0 < n) (hb : bitAt bs i = 1) (hr : 15 ≤ r) : findF bs i r n = some (i - 15) := by
  obtain ⟨m, rfl⟩ : ∃ m, n = m + 1 := ⟨n - 1, by omega⟩
  rw [findF, if_neg (by omega), if_pos hr]
end Go.Mine
namespace Go.Proofs.Ytejomjkkjcnfnaa
open Go.RowKit Go.Mine Go.Shelf

attribute [local go_sem] Oper.semAt_some

set_option maxRecDepth 100000 in
theorem Find_neg (w : World) (A : Option Addr) (n c : Nat) (i : Int) (hi : i < 0) : Calls Try.prog 32 #[.slice A n c, .int .i64 i] w fun e w' => e = .returned (.tuple #[.int .i64 0, .int .i64 3]) ∧ OnlyIn [] w w' := by
  go_enter Try.func32, Try.ntmps32
  go_wp2_with fail
  refine wp_scope_straight ?_
  go_wp2_with fail
  generalize hw5 : World.alloc _ _ = w5
  obtain ⟨hO, hsz⟩ := (Keep.start [] w).more2 hw5
  clear hw5
  simp only [Exit.noGoto]
  exact bodyPost_ret (results_two_cells rfl _ rfl rfl (loadVar_int (hO.blk 1 rfl) Try.underlying3) (loadVar_int (hO.blk 0 rfl) Try.underlying32)) rfl ⟨rfl, hO.only⟩

/-- What lies there within the loop of Find. -/
abbrev findL (D B : Nat) (o : Obj) (v : Value) (run : Nat) (x er : Int) : List (Nat × Obj) :=
  [(D + 1, o), (D, .deferred (some [])), (B + 1 + 1 + 1, cellsO 28 [v]), (B + 1 + 1, cellsO 3 [.int .i64 (run : Int)]), (B + 1, cellsO 32 [.int .i64 er]), (B, cellsO 3 [.int .i64 x])]

set_option maxRecDepth 100000 in
set_option maxHeartbeats 4000000 in
theorem Find_any (w : World) (v : Value) (bs : List UInt8) (hr : Rd w 1 v bs.length (byteCells bs)) (hl : bs.length ≤ 1000000000) (i0 : Nat) :
    Calls Try.prog 32 #[v, .int .i64 (i0 : Int)] w fun e w' => e = .returned (.tuple #[.int .i64 (findOf bs i0).1, .int .i64 (findOf bs i0).2]) ∧ OnlyIn [] w w' := by
  have hge : ¬ ((i0 : Int) < 0) := by omega
  obtain ⟨A, c, rfl⟩ : ∃ A c, v = .slice A bs.length c := by
    obtain ⟨-, A, c, rfl, -⟩ := hr
    exact ⟨A, c, rfl⟩
  (refine (callsIn_wide (n := 0)).1 ?_; refine callsIn_of_wp_marks Try.func32 rfl trivial ?_ rfl; simp only [Try.ntmps32, List.size_toArray, List.length_cons, List.length_nil, Nat.reduceAdd, Nat.reduceSub, Array.replicate_succ, Array.replicate_zero, List.push_toArray, List.append_toArray, List.nil_append, List.cons_append])
  gi_wp2_with fail
  refine wpIn_scope_straight ?_
  gi_wp2_with fail
  generalize hw5 : World.alloc _ _ = w5
  obtain ⟨hO, hsz⟩ := (Keep.start [] w).more3 hw5
  clear hw5
  refine wpIn_label ?_
  gi_wp2_with fail
  refine ⟨trivial, rfl, callsIn_wide.2 ((from_any w5 _ A bs.length c rfl (i0 : Int)).mono ?_)⟩
  rintro e w7 ⟨rfl, hw7⟩
  obtain ⟨hO, hsz7⟩ := hO.more2 hw7
  simp only [hsz] at hO hsz7 ⊢
  have hsa : w.heap.size + 5 ≤ w7.heap.size := by omega
  clear hw7 hsz7 hsz
  gi_wp2_with fail
  refine wpIn_range2 (gf := 69) (lb := #[.pointer (some ⟨w.heap.size + 1 + 1 + 1 + 1, 0, none⟩), .pointer (some ⟨w.heap.size + 1 + 1 + 1, 0, none⟩)]) rfl (enters_of Try.func69 (by kernel_rfl) rfl) ?_
  intro rc hround
  obtain ⟨hO1, -⟩ := hO.more2 (o0 := .deferred (some [])) (o1 := .loop (rc .ready none)) rfl
  simp only [List.cons_append, List.nil_append] at hO1
  generalize hW0 : World.alloc (World.alloc w7 _) _ = W0 at *
  clear hW0 hO
  generalize w7.heap.size = D at *
  have hBw : w.heap.size ≤ w.heap.size := Nat.le_refl _
  generalize hB0 : w.heap.size = B at hO1 hsa hround ⊢
  have hBB : w.heap.size ≤ B := by omega
  have hA0 : Blk W0 (B + 1 + 1 + 1 + 1) 3 [.int .i64 (i0 : Int)] := hO1.blk 2 rfl
  have hO2 : Keep [] w W0 (findL D B (.loop (rc .ready none)) (.slice A bs.length c) 0 0 0) := hO1.sub (.cons_cons _ (.cons_cons _ (.cons _ (List.Sublist.refl _))))
  clear hO1 hB0 hBw
  refine (from1_any (D + 1) (B + 1 + 1 + 1 + 1) (B + 1 + 1 + 1) i0 (.slice A bs.length c) bs hl
    (fun k W => ∃ r, r ≤ k ∧ Keep [] w W (findL D B (.loop (rc .ready none)) (.slice A bs.length c) r 0 0) ∧ findF bs i0 0 (8 * bs.length - i0) = findF bs (i0 + k) r (8 * bs.length - i0 - k))
    (fun k W => ∃ r, Keep [] w W (findL D B (.loop (rc .done (some .ret))) (.slice A bs.length c) r (findOf bs i0).1 (findOf bs i0).2)) ?hR ?hD ?hS ?hY _ hA0 ⟨0, by omega, hO2, rfl⟩).mono ?_
  case hR =>
    rintro k W ⟨r, _, hO, _⟩
    exact ⟨hO.blk 2 rfl, hr.cells fun p u hp => hO.only.cell hp (by simp)⟩
  case hD =>
    rintro k m W ⟨r, h1, hO, hz⟩
    exact ⟨r, h1, hO.drewN m, hz⟩
  case hS =>
    rintro k u x W hA ⟨r, h1, hO, hz⟩
    exact ⟨r, h1, hO.step1 ((OnlyIn.refl [B + 1 + 1 + 1 + 1] W).setCell (p := ⟨B + 1 + 1 + 1 + 1, 0, none⟩) (.inl (by simp)) u) (by simp; omega) (by simp; omega), hz⟩
  case hY =>
    rintro k W hlt hA ⟨r, hrk, hO, hz0⟩
    have HZ := Lib.hid hz0
    clear hz0
    refine hround _ W _ rfl (hO.at_ 0 _ _ rfl) ?_
    gi_wp2_with fail
    refine ⟨hO.at_ 0 _ _ rfl, ?_⟩
    have hOb : Keep [] w (W.putObj (D + 1) (.loop (rc .busy none))) (findL D B (.loop (rc .busy none)) (.slice A bs.length c) r 0 0) := hO.put 0 rfl (.loop (rc .busy none))
    have hAb := hA.putObj (l := D + 1) (by omega) (.loop (rc .busy none))
    generalize W.putObj (D + 1) (.loop (rc .busy none)) = Wc at hOb hAb ⊢
    clear hO hA
    have c2 := hOb.cell 5 0 rfl rfl
    have c3 := hOb.cell 4 0 rfl rfl
    have c4 := hOb.cell 3 0 rfl rfl
    have f2 := hOb.free 5 0 rfl
    have f3 := hOb.free 4 0 rfl
    have f4 := hOb.free 3 0 rfl
    have hn0 : 0 < 8 * bs.length - i0 - k := by omega
    by_cases hx : bitAt bs (i0 + k) = 0
    · have hx0 : ((bitAt bs (i0 + k) : Nat) : Int) = 0 := by rw [hx]; rfl
      have hst := HZ.out.trans (findF_step0 hn0 hx)
      have HH := Lib.hid (And.intro hOb hst)
      clear hx hOb hst
      gi_wp2_with fail
      obtain ⟨hOb, hst⟩ := HH.out
      have hO3 := hOb.set 3 0 rfl (.int .i64 ((r + 1 : Nat) : Int))
      have hO4 := hO3.put 0 rfl (.loop (rc .ready none))
      rw [show (r : Int) + 1 = ((r + 1 : Nat) : Int) from by omega]
      refine ⟨hO3.at_ 0 _ _ rfl, .inl ⟨rfl, (hAb.far (p := ⟨B + 1 + 1, 0, none⟩) (by simp; try omega) _).putObj (by omega) _, r + 1, by omega, ?_, hst⟩⟩
      exact hO4
    · have hx1 : bitAt bs (i0 + k) = 1 := by have := bitAt_lt bs (i0 + k); omega
      have hx0 : ((bitAt bs (i0 + k) : Nat) : Int) = 1 := by rw [hx1]; rfl
      by_cases hk : r < 15
      · have hst := HZ.out.trans (findF_step1 hn0 hx1 hk)
        have HH := Lib.hid (And.intro hOb hst)
        clear hx hOb hst
        gi_wp2_with fail
        obtain ⟨hOb, hst⟩ := HH.out
        have hO3 := hOb.set 3 0 rfl (.int .i64 0)
        have hO4 := hO3.put 0 rfl (.loop (rc .ready none))
        exact ⟨hO3.at_ 0 _ _ rfl, .inl ⟨rfl, (hAb.far (p := ⟨B + 1 + 1, 0, none⟩) (by simp; try omega) _).putObj (by omega) _, 0, by omega, hO4, hst⟩⟩
      · have hk15 : 15 ≤ r := by omega
        have hst : findOf bs i0 = (((i0 + k - 15 : Nat) : Int), 0) := by rw [findOf, HZ.out.trans (findF_stop hn0 hx1 hk15)]; rfl
        have HH := Lib.hid (And.intro hOb hst)
        clear hx hOb hst
        gi_wp2_with fail
        obtain ⟨hOb, hst⟩ := HH.out
        rw [hst, show ((i0 + k - 15 : Nat) : Int) = (i0 : Int) + (k : Int) - 15 from by omega]
        have hS := (hOb.set 5 0 rfl (.int .i64 ((i0 : Int) + (k : Int) - 15))).set 4 0 rfl (.int .i64 0)
        exact ⟨hS.at_ 0 _ _ rfl, .inr ⟨rfl, r, hS.put 0 rfl (.loop (rc .done (some .ret)))⟩⟩
  rintro e W2 ⟨⟨u, rfl⟩, (⟨r, hrk, hO, hz⟩ | ⟨k, hk, r, hO⟩)⟩
  · have hST : findOf bs i0 = (0, 5) := by
      rw [findOf, hz, show 8 * bs.length - i0 - (8 * bs.length - i0) = 0 by omega]; rfl
    refine ⟨⟨_, rfl⟩, .inl ⟨hO.at_ 0 _ _ rfl, ?_⟩⟩
    have hOb : Keep [] w (W2.putObj (D + 1) (.loop (rc .exhausted none))) (findL D B (.loop (rc .exhausted none)) (.slice A bs.length c) r 0 0) := hO.put 0 rfl (.loop (rc .exhausted none))
    generalize W2.putObj (D + 1) (.loop (rc .exhausted none)) = Wc at hOb ⊢
    clear hO
    have c2 := hOb.cell 5 0 rfl rfl
    have c3 := hOb.cell 4 0 rfl rfl
    have f2 := hOb.free 5 0 rfl
    have f3 := hOb.free 4 0 rfl
    have HH := Lib.hid (And.intro hOb hST)
    clear hOb hST hz
    gi_wp2_with fail
    obtain ⟨hOb, hST⟩ := HH.out
    rw [hST]
    have hS := (hOb.set 5 0 rfl (.int .i64 0)).set 4 0 rfl (.int .i64 5)
    have hP := hS.put 1 rfl (.deferred none)
    exact leave_marks (D := D) rfl (hS.at_ 1 _ _ rfl) (results_two_cells rfl _ rfl rfl (loadVar_int (hP.blk 5 rfl) Try.underlying3) (loadVar_int (hP.blk 4 rfl) Try.underlying32)) ⟨rfl, hP.only⟩
  · refine ⟨⟨_, rfl⟩, .inr ⟨_, hO.at_ 0 _ _ rfl, ?_⟩⟩
    have hOb := hO.put 0 rfl (.loop (rc .exhausted (some .ret)))
    generalize W2.putObj (D + 1) _ = Wc at hOb ⊢
    gi_wp2_with fail
    have hP := hOb.put 1 rfl (.deferred none)
    exact leave_marks (D := D) rfl (hOb.at_ 1 _ _ rfl) (results_two_cells rfl _ rfl rfl (loadVar_int (hP.blk 5 rfl) Try.underlying3) (loadVar_int (hP.blk 4 rfl) Try.underlying32)) ⟨rfl, hP.only⟩
end Go.Proofs.Ytejomjkkjcnfnaa
