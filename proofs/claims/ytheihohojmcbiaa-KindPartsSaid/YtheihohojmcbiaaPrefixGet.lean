/-
  Package prefix: Get.
-/
import Derived.Test.YtheihohojmcbiaaPrefixFrom
namespace Go.Mine
open Go.RowKit
/-- The bits from a place on. -/
def bitsFrom (bs : List UInt8) (i : Nat) : List Bool := (List.range (8 * bs.length - i)).map fun j => decide (bitAt bs (i + j) = 1)
theorem bitsFrom_length (bs : List UInt8) (i : Nat) : (bitsFrom bs i).length = 8 * bs.length - i := by simp [bitsFrom]
theorem bitsFrom_drop {bs : List UInt8} {i k : Nat} (h : i + k < 8 * bs.length) : (bitsFrom bs i).drop k = decide (bitAt bs (i + k) = 1) :: (bitsFrom bs i).drop (k + 1) := by
  rw [List.drop_eq_getElem_cons (by rw [bitsFrom_length]; omega)]
  simp [bitsFrom]
theorem Blk.setAll {w : World} {b : Nat} {t : TypeId} {cs cs' : List Value} (h : Blk w b t cs) (hl : cs'.length = cs.length) : Blk (w.setCells b 0 cs') b t cs' := by
  obtain ⟨cur, e1, e2, e3, e4⟩ := setCells_blk b t cs' 0 w _ h (by simp [hl])
  unfold Blk
  rw [e1]
  congr 2
  apply Array.ext'
  apply List.ext_getElem?
  intro j
  rw [Array.getElem?_toList]
  by_cases hj : j < cs'.length
  · have := e3 j hj
    rw [Nat.zero_add] at this
    rw [this]
  · rw [List.getElem?_eq_none (by simp; omega), Array.getElem?_eq_none (by rw [e2]; simp; omega)]
theorem OnlyIn.setCells (w : World) (b o : Nat) (vs : List Value) : OnlyIn [b] w (w.setCells b o vs) := (OnlyIn.refl _ _).grown (grownBy_setCells w b o vs) (by simp)
end Go.Mine
namespace Go.Proofs.Ytheihohojmcbiaa
open Go.RowKit Go.Mine Go.Shelf

attribute [local go_sem] Oper.semAt_some

set_option maxRecDepth 100000 in
theorem TGet_none (w : World) (p : Option Addr) (h : NoT w p) (A : Option Addr) (n c : Nat) (i : Int) : Calls Try.prog 49 #[.pointer p, .slice A n c, .int .i64 i] w fun e w' => e = .returned (.tuple #[.int .i64 0, .int .i64 0, .int .i64 1]) ∧ OnlyIn [] w w' := by
  go_enter Try.func49, Try.ntmps49
  go_wp2_with fail
  generalize hw5 : World.alloc _ _ = w5
  obtain ⟨hO, hsz⟩ := (Keep.start [] w).more4 hw5
  clear hw5
  have hn := tnone_yes w5 p (by
    rcases h with h | ⟨b, h, hb⟩
    · exact .inl h
    · exact .inr ⟨b, h, hO.only.cell hb (by simp)⟩)
  have c3 := hO.cell 3 0 rfl rfl
  have c2 := hO.cell 2 0 rfl rfl
  have c1 := hO.cell 1 0 rfl rfl
  have c0 := hO.cell 0 0 rfl rfl
  have f2 := hO.free 2 0 rfl
  have f1 := hO.free 1 0 rfl
  have f0 := hO.free 0 0 rfl
  go_wp2_with (go_at_call 68; refine hn.mono ?_; rintro e w' ⟨rfl, rfl⟩)
  have hS := ((hO.set 2 0 rfl (.int .i64 0)).set 1 0 rfl (.int .i64 0)).set 0 0 rfl (.int .i64 1)
  exact bodyPost_ret (res3_cells rfl _ rfl rfl rfl (load_int (hS.blk 2 rfl) Try.underlying3) (load_int (hS.blk 1 rfl) Try.underlying3) (load_int (hS.blk 0 rfl) Try.underlying25)) rfl ⟨rfl, hS.only⟩
set_option maxRecDepth 100000 in
theorem TGet_neg (w : World) {base b mb n m : Nat} {v : Value} {t : List TNode} {f : Int → Option ByteArray} (h : Tr w base b v mb n t f m) (hm : 0 < m) (A : Option Addr) (k c : Nat) (i : Int) (hi : i < 0) :
    Calls Try.prog 49 #[.pointer (some ⟨b, 0, none⟩), .slice A k c, .int .i64 i] w fun e w' => e = .returned (.tuple #[.int .i64 0, .int .i64 0, .int .i64 3]) ∧ OnlyIn [] w w' := by
  go_enter Try.func49, Try.ntmps49
  go_wp2_with fail
  generalize hw5 : World.alloc _ _ = w5
  obtain ⟨hO, hsz⟩ := (Keep.start [] w).more4 hw5
  clear hw5
  have hn := none_no w5 (h.only hO.only (by simp)) hm
  have c3 := hO.cell 3 0 rfl rfl
  have c2 := hO.cell 2 0 rfl rfl
  have c1 := hO.cell 1 0 rfl rfl
  have c0 := hO.cell 0 0 rfl rfl
  have f2 := hO.free 2 0 rfl
  have f1 := hO.free 1 0 rfl
  have f0 := hO.free 0 0 rfl
  go_wp2_with (go_at_call 68; refine hn.mono ?_; rintro e w' ⟨rfl, rfl⟩)
  have hS := ((hO.set 2 0 rfl (.int .i64 0)).set 1 0 rfl (.int .i64 0)).set 0 0 rfl (.int .i64 3)
  exact bodyPost_ret (res3_cells rfl _ rfl rfl rfl (load_int (hS.blk 2 rfl) Try.underlying3) (load_int (hS.blk 1 rfl) Try.underlying3) (load_int (hS.blk 0 rfl) Try.underlying25)) rfl ⟨rfl, hS.only⟩

/-- What lies there within the loop of Get. -/
abbrev getL (D B : Nat) (o : Obj) (v : Value) (tb : Nat) (nd : TNode) (k : Nat) (x y er : Int) : List (Nat × Obj) :=
  [(D + 1, o), (D, .deferred (some [])), (B + 1 + 1 + 1 + 1 + 1 + 1, cellsO 22 [v]), (B + 1 + 1 + 1 + 1 + 1, cellsO 3 [.int .i64 (k : Int)]), (B + 1 + 1 + 1 + 1, cellsO 85 (ncell nd)),
    (B + 1 + 1 + 1, cellsO 25 [.int .i64 er]), (B + 1 + 1, cellsO 3 [.int .i64 y]), (B + 1, cellsO 3 [.int .i64 x]), (B, cellsO 61 [.pointer (some ⟨tb, 0, none⟩)])]

set_option maxRecDepth 100000 in
set_option maxHeartbeats 4000000 in
theorem TGet_any (w : World) {base b mb n m : Nat} {tv : Value} {t : List TNode} {f : Int → Option ByteArray} (h : Tr w base b tv mb n t f m) (hm : 0 < m) (v : Value) (bs : List UInt8) (hr : Rd w 1 v bs.length (byteCells bs)) (hl : bs.length ≤ 1000000000) (i0 : Nat) (hi0 : i0 ≤ 9223372036854775807) :
    Calls Try.prog 49 #[.pointer (some ⟨b, 0, none⟩), v, .int .i64 (i0 : Int)] w fun e w' => e = .returned (.tuple #[.int .i64 (getF t 0 0 (bitsFrom bs i0)).1, .int .i64 (getF t 0 0 (bitsFrom bs i0)).2.1, .int .i64 (getF t 0 0 (bitsFrom bs i0)).2.2]) ∧ OnlyIn [] w w' := by
  have hge : ¬ ((i0 : Int) < 0) := by omega
  obtain ⟨A, c, rfl⟩ : ∃ A c, v = .slice A bs.length c := by
    obtain ⟨-, A, c, rfl, -⟩ := hr
    exact ⟨A, c, rfl⟩
  obtain ⟨g, off, cap, rfl, hgb, hgl, hcap⟩ := h.sl.form h.pos
  obtain ⟨L, hL⟩ : ∃ L, t.length = L := ⟨_, rfl⟩
  obtain ⟨nd0, hnd0⟩ : ∃ nd0, t[0]? = some nd0 := ⟨_, List.getElem?_eq_getElem h.pos⟩
  obtain ⟨R, hRR⟩ : ∃ R, getF t 0 0 (bitsFrom bs i0) = R := ⟨_, rfl⟩
  rw [hRR]
  (refine (callsIn_wide (n := 0)).1 ?_; refine callsIn_of_wp_marks Try.func49 rfl trivial ?_ rfl; simp only [Try.ntmps49, List.size_toArray, List.length_cons, List.length_nil, Nat.reduceAdd, Nat.reduceSub, Array.replicate_succ, Array.replicate_zero, List.push_toArray, List.append_toArray, List.nil_append, List.cons_append])
  gi_wp2_with fail
  generalize hw5 : World.alloc _ _ = w5
  obtain ⟨hO, hsz⟩ := (Keep.start [] w).more4 hw5
  clear hw5
  have hT5 := h.only hO.only (by simp)
  have hn := none_no w5 hT5 hm
  have c3 := hO.cell 3 0 rfl rfl
  have c0 := hT5.blk.cell (i := 0) rfl
  have hLp : 0 < L := by rw [← hL]; exact h.pos
  have q0 := hT5.node0 rfl hnd0
  have q1 := hT5.nodej rfl hnd0 1 rfl
  have q2 := hT5.nodej rfl hnd0 2 rfl
  have q3 := hT5.nodej rfl hnd0 3 rfl
  simp only [Nat.zero_mul, Nat.add_zero] at q0 q1 q2 q3
  rw [hL] at c0
  have hLi : (0 : Int) < (L : Int) := by omega
  gi_wp2_with fail
  refine ⟨trivial, rfl, callsIn_wide.2 (hn.mono ?_)⟩
  rintro e w6 ⟨rfl, rfl⟩
  clear hn
  gi_wp2_with fail
  generalize hw6 : World.alloc (World.alloc _ _) _ = w6
  obtain ⟨hO, hsz6⟩ := hO.more2 hw6
  clear hw6 hT5 q0 q1 q2 q3 c0 c3
  refine ⟨trivial, rfl, callsIn_wide.2 ((pfrom_any w6 _ A bs.length c rfl (i0 : Int)).mono ?_)⟩
  rintro e w7 ⟨rfl, hw7⟩
  obtain ⟨hO, hsz7⟩ := hO.more2 hw7
  simp only [hsz, hsz6] at hO hsz7 ⊢
  have hsa : w.heap.size + 8 ≤ w7.heap.size := by omega
  clear hw7 hsz7 hsz hsz6
  gi_wp2_with fail
  refine wpIn_range2 (gf := 82) (lb := #[.pointer (some ⟨w.heap.size + 1 + 1 + 1 + 1 + 1 + 1, 0, none⟩), .pointer (some ⟨w.heap.size + 1 + 1 + 1 + 1 + 1 + 1 + 1, 0, none⟩)]) rfl (enters_of Try.func82 (by kernel_rfl) rfl) ?_
  intro rc hround
  obtain ⟨hO1, -⟩ := hO.more2 (o0 := .deferred (some [])) (o1 := .loop (rc .ready none)) rfl
  simp only [List.cons_append, List.nil_append] at hO1
  generalize hW0 : World.alloc (World.alloc w7 _) _ = W0 at *
  clear hW0 hO
  generalize w7.heap.size = D at *
  generalize hB0 : w.heap.size = B at hO1 hsa hround ⊢
  have hBB : w.heap.size ≤ B := by omega
  have hA0 : Blk W0 (B + 1 + 1 + 1 + 1 + 1 + 1 + 1) 3 [.int .i64 (i0 : Int)] := hO1.blk 2 rfl
  have hO2 : Keep [] w W0 (getL D B (.loop (rc .ready none)) (.slice A bs.length c) b (t.getD 0 TNode.mt) 0 0 0 0) := by
    have hg : t.getD 0 TNode.mt = nd0 := by rw [List.getD_eq_getElem?_getD, hnd0]; rfl
    rw [hg]
    exact hO1.sub (.cons_cons _ (.cons_cons _ (.cons _ (List.Sublist.refl _))))
  clear hO1 hB0
  refine (pfrom1_any (D + 1) (B + 1 + 1 + 1 + 1 + 1 + 1) (B + 1 + 1 + 1 + 1 + 1 + 1 + 1) i0 hi0 (.slice A bs.length c) bs hl
    (fun k W => ∃ a, a < L ∧ Keep [] w W (getL D B (.loop (rc .ready none)) (.slice A bs.length c) b (t.getD a TNode.mt) k 0 0 0) ∧ R = getF t a k ((bitsFrom bs i0).drop k))
    (fun k W => ∃ nd k', Keep [] w W (getL D B (.loop (rc .done (some .ret))) (.slice A bs.length c) b nd k' R.1 R.2.1 R.2.2)) ?hR ?hS ?hY _ hA0 ⟨0, hLp, hO2, by rw [← hRR]; rfl⟩).mono ?_
  case hR =>
    rintro k W ⟨a, _, hO, _⟩
    exact ⟨hO.blk 2 rfl, hr.cells fun p u hp => hO.only.cell hp (by simp)⟩
  case hS =>
    rintro k u x W hA ⟨a, h1, hO, hz⟩
    exact ⟨a, h1, hO.step1 ((OnlyIn.refl [B + 1 + 1 + 1 + 1 + 1 + 1 + 1] W).setCell (p := ⟨B + 1 + 1 + 1 + 1 + 1 + 1 + 1, 0, none⟩) (.inl (by simp)) u) (by simp; omega) (by simp; omega), hz⟩
  case hY =>
    rintro k W hlt hA ⟨a, haL, hO, hz0⟩
    have HZ := Lib.hid hz0
    clear hz0
    have hdr := bitsFrom_drop hlt
    obtain ⟨p, hp⟩ : ∃ p, i0 + k = p := ⟨_, rfl⟩
    rw [hp] at hlt hA hdr ⊢
    refine hround _ W _ rfl (hO.at_ 0 _ _ rfl) ?_
    gi_wp2_with fail
    refine ⟨hO.at_ 0 _ _ rfl, ?_⟩
    obtain ⟨nd, hnd⟩ : ∃ nd, t[a]? = some nd := ⟨_, List.getElem?_eq_getElem (by omega)⟩
    have hg : t.getD a TNode.mt = nd := by rw [List.getD_eq_getElem?_getD, hnd]; rfl
    rw [hg] at hO
    have hOb : Keep [] w (W.putObj (D + 1) (.loop (rc .busy none))) (getL D B (.loop (rc .busy none)) (.slice A bs.length c) b nd k 0 0 0) := hO.put 0 rfl (.loop (rc .busy none))
    have hAb := hA.putObj (l := D + 1) (by omega) (.loop (rc .busy none))
    generalize W.putObj (D + 1) (.loop (rc .busy none)) = Wc at hOb hAb ⊢
    clear hO hA
    have cx := hOb.cell 7 0 rfl rfl
    have cy := hOb.cell 6 0 rfl rfl
    have ce := hOb.cell 5 0 rfl rfl
    have fx := hOb.free 7 0 rfl
    have fy := hOb.free 6 0 rfl
    have fe := hOb.free 5 0 rfl
    have ck := hOb.cell 3 0 rfl rfl
    have fk := hOb.free 3 0 rfl
    obtain ⟨xb, hxb⟩ : ∃ xb : Bool, decide (bitAt bs p = 1) = xb := ⟨_, rfl⟩
    have hbit : bitAt bs p = xb.toNat := by
      have := bitAt_lt bs p
      rw [← hxb]
      by_cases h1 : bitAt bs p = 1
      · simp [h1]
      · have h0 : bitAt bs p = 0 := by omega
        simp [h0]
    obtain ⟨x, hx⟩ : ∃ x, xb.toNat = x := ⟨_, rfl⟩
    obtain ⟨q, hq⟩ : ∃ q, nd.to xb = q := ⟨_, rfl⟩
    have hx2 : (x : Int) < 2 := by rw [← hx]; cases xb <;> decide
    have hw1 : IntKind.i64.wrap ((k : Int) + 1) = (k : Int) + 1 := by rw [IntKind.wrap_i64]; omega
    have cq : Wc.cell? ⟨B + 1 + 1 + 1 + 1, x, none⟩ = some (.int .i64 (q : Int)) := by
      refine hOb.cell 4 x rfl ?_
      rw [← hx, ← hq]
      cases xb <;> rfl
    have hqL : q < L := by rw [← hq, ← hL]; exact h.wf.to hnd xb
    have hst : R = if q = 0 then (0, 0, 7) else if (t.getD q TNode.mt).leaf then ((t.getD q TNode.mt).num, ((k + 1 : Nat) : Int), 0) else getF t q (k + 1) ((bitsFrom bs i0).drop (k + 1)) := by
      rw [HZ.out, hdr, hxb, getF]
      simp only [hg, hq]
    rw [hbit, hx]
    clear hxb hbit HZ hdr hg hnd hround
    by_cases hq0 : q = 0
    · rw [if_pos hq0] at hst
      subst hq0
      have HH := Lib.hid (And.intro hOb hst)
      clear hOb hst hAb
      gi_wp2_with fail
      obtain ⟨hOb, hst⟩ := HH.out
      rw [hst]
      have hS := (((hOb.set 3 0 rfl (.int .i64 ((k + 1 : Nat) : Int))).set 7 0 rfl (.int .i64 0)).set 6 0 rfl (.int .i64 0)).set 5 0 rfl (.int .i64 7)
      exact ⟨hS.at_ 0 _ _ rfl, .inr ⟨rfl, nd, k + 1, hS.put 0 rfl (.loop (rc .done (some .ret)))⟩⟩
    · rw [if_neg hq0] at hst
      obtain ⟨nq, hnq⟩ : ∃ nq, t[q]? = some nq := ⟨_, List.getElem?_eq_getElem (by omega)⟩
      have hgq : t.getD q TNode.mt = nq := by rw [List.getD_eq_getElem?_getD, hnq]; rfl
      rw [hgq] at hst
      have hzq : ((q : Int) == 0) = false := by simp; exact hq0
      have HH := Lib.hid (And.intro hOb (And.intro hst (And.intro hgq hq0)))
      clear hOb hst hgq hq0
      gi_wp2_with fail
      generalize hW1 : World.setCell Wc _ _ = W1
      obtain ⟨hOb, hst, hgq, hq0⟩ := HH.out
      have hO1 : Keep [] w W1 (getL D B (.loop (rc .busy none)) (.slice A bs.length c) b nd (k + 1) 0 0 0) := by
        rw [← hW1]; exact hOb.set 3 0 rfl (.int .i64 ((k + 1 : Nat) : Int))
      have hA1 : Blk W1 (B + 1 + 1 + 1 + 1 + 1 + 1 + 1) 3 [.int .i64 (p : Int)] := by
        rw [← hW1]; exact hAb.far (by simp; omega) _
      have hT1 := h.only hO1.only (by simp)
      clear hW1 hOb HH cx cy ce ck cq hAb fx fy fe fk
      have ct := hO1.cell 8 0 rfl rfl
      have c0 := hT1.blk.cell (i := 0) rfl
      rw [hL] at c0
      have cq : W1.cell? ⟨B + 1 + 1 + 1 + 1, x, none⟩ = some (.int .i64 (q : Int)) := by
        refine hO1.cell 4 x rfl ?_
        rw [← hx, ← hq]
        cases xb <;> rfl
      have hqi : (q : Int) < (L : Int) := by omega
      have q0 := hT1.node0 rfl hnq
      have q1 := hT1.nodej rfl hnq 1 rfl
      have q2 := hT1.nodej rfl hnq 2 rfl
      have q3 := hT1.nodej rfl hnq 3 rfl
      have o0 := hO1.cell 4 0 rfl rfl
      have o1 := hO1.cell 4 1 rfl rfl
      have o2 := hO1.cell 4 2 rfl rfl
      have o3 := hO1.cell 4 3 rfl rfl
      have f0 := hO1.free 4 0 rfl
      have f1 := hO1.free 4 1 rfl
      have f2 := hO1.free 4 2 rfl
      have f3 := hO1.free 4 3 rfl
      have hmix := Try.mixed
      have HH := Lib.hid (And.intro hO1 (And.intro hst (And.intro hgq (And.intro hA1 hT1))))
      clear hO1 hst hgq hA1 hT1
      by_cases hlf : nq.leaf = true
      · rw [hlf] at q2
        (refine Go.Mine.wpIn_region_still_tail (by first | exact Go.Mine.Open.wide | exact Go.Mine.Open.inRound _) 10 (by assumption) (by kernel_rfl) (by kernel_rfl) ?_; simp only [List.take_succ_cons, List.take_zero, List.drop_succ_cons, List.drop_zero]; (repeat (refine Go.wpStill_step (fun K hK => ?_); go_simp; first | (refine hK _ ?_; clear hK K) | (apply Exists.intro; refine ⟨?_, hK _ ?_⟩; (fail); clear hK K))); refine Go.wpStill_nil ?_)
        gi_wp2_with fail
        generalize hW2 : World.drew (World.setCell (World.setCell (World.setCell (World.setCell _ _ _) _ _) _ _) _ _) = W2
        obtain ⟨hO1, hst, hgq, -, -⟩ := HH.out
        have hO2 : Keep [] w W2 (getL D B (.loop (rc .busy none)) (.slice A bs.length c) b nq (k + 1) 0 0 0) := by
          rw [← hW2]
          have := ((((hO1.set 4 0 rfl (.int .i64 (nq.t0 : Int))).set 4 1 rfl (.int .i64 (nq.t1 : Int))).set 4 2 rfl (.bool true)).set 4 3 rfl (.int .i64 nq.num)).drew
          rw [← hlf] at this
          rw [← hlf]
          exact this
        have hst2 : R = (nq.num, ((k + 1 : Nat) : Int), 0) := by rw [hst, if_pos hlf]
        clear hO1 HH hW2 hst o0 o1 o2 o3 f0 f1 f2 f3 q0 q1 q2 q3 c0 ct cq hgq
        have cx := hO2.cell 7 0 rfl rfl
        have cy := hO2.cell 6 0 rfl rfl
        have ce := hO2.cell 5 0 rfl rfl
        have fx := hO2.free 7 0 rfl
        have fy := hO2.free 6 0 rfl
        have fe := hO2.free 5 0 rfl
        have ck := hO2.cell 3 0 rfl rfl
        have cn := hO2.cell 4 3 rfl rfl
        have hne1 : ∀ p ∈ [(⟨B + 1, 0, none⟩ : Addr), ⟨B + 1 + 1, 0, none⟩, ⟨B + 1 + 1 + 1, 0, none⟩], p ≠ (⟨B + 1 + 1 + 1 + 1, 3, none⟩ : Addr) := by simp
        have hne2 : ∀ p ∈ [(⟨B + 1, 0, none⟩ : Addr), ⟨B + 1 + 1, 0, none⟩, ⟨B + 1 + 1 + 1, 0, none⟩], p ≠ (⟨B + 1 + 1 + 1 + 1 + 1, 0, none⟩ : Addr) := by simp
        have HH := Lib.hid (And.intro hO2 hst2)
        clear hO2 hst2 hr h
        (refine Go.Mine.wpIn_region_mix (by first | exact Go.Mine.Open.wide | exact Go.Mine.Open.inRound _) [(3, ⟨B + 1, 0, none⟩), (4, ⟨B + 1 + 1, 0, none⟩), (5, ⟨B + 1 + 1 + 1, 0, none⟩)] (by assumption) (by kernel_rfl) (by kernel_rfl) (by rintro ⟨_, _, h⟩; exact h.elim) ?_ ?_; (focus (first | (simp [List.pairwise_cons]; done) | (simp [List.pairwise_cons]; omega))); (repeat (refine Go.Mine.mix_step _ _ (by first | rfl | go_simp) (fun W hW => by (have d1 := (hW.cell hne1).trans cn; have d2 := (hW.cell hne2).trans ck; obtain ⟨y1, g1⟩ := hW.ex cx; obtain ⟨y2, g2⟩ := hW.ex cy; obtain ⟨y3, g3⟩ := hW.ex ce; have e1 := (hW.frozen _).trans fx; have e2 := (hW.frozen _).trans fy; have e3 := (hW.frozen _).trans fe; go_simp; simp only [Go.Mine.Oper.mixUpon]; first | exact ⟨rfl, (show W = Go.Mine.app none W from rfl)⟩ | exact ⟨rfl, (show W.setCell _ _ = Go.Mine.app (some (_, _)) W from rfl)⟩)) (by intro p u h; cases h; try rfl) ?_; simp only [Go.Mine.app]; go_simp)); refine Go.Mine.mix_nil ?_)
        gi_wp2_with fail
        obtain ⟨hO2, hst2⟩ := HH.out
        rw [hst2]
        have hS := (((hO2.set 7 0 rfl (.int .i64 nq.num)).set 6 0 rfl (.int .i64 ((k + 1 : Nat) : Int))).set 5 0 rfl (.int .i64 0)).drew
        exact ⟨hS.at_ 0 _ _ rfl, .inr ⟨rfl, nq, k + 1, hS.put 0 rfl (.loop (rc .done (some .ret)))⟩⟩
      · have hlf' : nq.leaf = false := by simpa using hlf
        rw [hlf'] at q2
        (refine Go.Mine.wpIn_region_still_tail (by first | exact Go.Mine.Open.wide | exact Go.Mine.Open.inRound _) 10 (by assumption) (by kernel_rfl) (by kernel_rfl) ?_; simp only [List.take_succ_cons, List.take_zero, List.drop_succ_cons, List.drop_zero]; (repeat (refine Go.wpStill_step (fun K hK => ?_); go_simp; first | (refine hK _ ?_; clear hK K) | (apply Exists.intro; refine ⟨?_, hK _ ?_⟩; (fail); clear hK K))); refine Go.wpStill_nil ?_)
        gi_wp2_with fail
        generalize hW2 : World.drew (World.setCell (World.setCell (World.setCell (World.setCell _ _ _) _ _) _ _) _ _) = W2
        obtain ⟨hO1, hst, hgq, hA1, -⟩ := HH.out
        have hO2 : Keep [] w W2 (getL D B (.loop (rc .busy none)) (.slice A bs.length c) b nq (k + 1) 0 0 0) := by
          rw [← hW2]
          have := ((((hO1.set 4 0 rfl (.int .i64 (nq.t0 : Int))).set 4 1 rfl (.int .i64 (nq.t1 : Int))).set 4 2 rfl (.bool false)).set 4 3 rfl (.int .i64 nq.num)).drew
          rw [← hlf'] at this
          rw [← hlf']
          exact this
        have hA2 : Blk W2 (B + 1 + 1 + 1 + 1 + 1 + 1 + 1) 3 [.int .i64 (p : Int)] := by
          rw [← hW2]
          exact ((((hA1.far (by simp; omega) _).far (by simp; omega) _).far (by simp; omega) _).far (by simp; omega) _).drew
        refine ⟨hO2.at_ 0 _ _ rfl, .inl ⟨rfl, hA2.putObj (by omega) _, q, hqL, ?_, ?_⟩⟩
        · have hgq2 : t[q]?.getD TNode.mt = nq := by rw [hnq]; rfl
          rw [hgq2]
          exact hO2.put 0 rfl (.loop (rc .ready none))
        · rw [hst, if_neg hlf]
  rintro e W2 ⟨⟨u, rfl⟩, (⟨a, haL, hO, hz⟩ | ⟨k, hk, nd, k', hO⟩)⟩
  · have hST : R = (0, 0, 5) := by
      rw [hz, List.drop_eq_nil_of_le (by rw [bitsFrom_length]; omega)]; rfl
    refine ⟨⟨_, rfl⟩, .inl ⟨hO.at_ 0 _ _ rfl, ?_⟩⟩
    have hOb := hO.put 0 rfl (.loop (rc .exhausted none))
    generalize W2.putObj (D + 1) (.loop (rc .exhausted none)) = Wc at hOb ⊢
    clear hO
    have c2 := hOb.cell 7 0 rfl rfl
    have c3 := hOb.cell 6 0 rfl rfl
    have c4 := hOb.cell 5 0 rfl rfl
    have f2 := hOb.free 7 0 rfl
    have f3 := hOb.free 6 0 rfl
    have f4 := hOb.free 5 0 rfl
    have HH := Lib.hid (And.intro hOb hST)
    clear hOb hST hz hr h
    gi_wp2_with fail
    obtain ⟨hOb, hST⟩ := HH.out
    rw [hST]
    have hS := ((hOb.set 7 0 rfl (.int .i64 0)).set 6 0 rfl (.int .i64 0)).set 5 0 rfl (.int .i64 5)
    have hP := hS.put 1 rfl (.deferred none)
    exact leave_marks (D := D) rfl (hS.at_ 1 _ _ rfl) (res3_cells rfl _ rfl rfl rfl (load_int (hP.blk 7 rfl) Try.underlying3) (load_int (hP.blk 6 rfl) Try.underlying3) (load_int (hP.blk 5 rfl) Try.underlying25)) ⟨rfl, hP.only⟩
  · refine ⟨⟨_, rfl⟩, .inr ⟨_, hO.at_ 0 _ _ rfl, ?_⟩⟩
    have hOb := hO.put 0 rfl (.loop (rc .exhausted (some .ret)))
    generalize W2.putObj (D + 1) _ = Wc at hOb ⊢
    gi_wp2_with fail
    have hP := hOb.put 1 rfl (.deferred none)
    exact leave_marks (D := D) rfl (hOb.at_ 1 _ _ rfl) (res3_cells rfl _ rfl rfl rfl (load_int (hP.blk 7 rfl) Try.underlying3) (load_int (hP.blk 6 rfl) Try.underlying3) (load_int (hP.blk 5 rfl) Try.underlying25)) ⟨rfl, hP.only⟩
end Go.Proofs.Ytheihohojmcbiaa
