/-
  Package pool: New.
-/
import Derived.Test.YtmbnmhcfafgnaaaPool6
namespace Go.Mine
def newE (n q : Int) : Int := if 1 ≤ n ∧ n ≤ 64 ∧ 1 ≤ q ∧ q ≤ n then 0 else 3
def emptyFs (N : Nat) : List Fr := List.replicate N Fr.empty
theorem emptyFs_at {N i : Nat} : frAt (emptyFs N) i = Fr.empty := by
  unfold frAt emptyFs
  rw [List.getD_eq_getElem?_getD, List.getElem?_replicate]
  split <;> rfl
theorem emptyFs_free (N : Nat) : freeI (emptyFs N) = List.range N := by
  unfold freeI
  rw [show (emptyFs N).length = N from List.length_replicate, List.filter_eq_self.2]
  intro i _
  rw [emptyFs_at]
  rfl
theorem emptyFs_cnt (N : Nat) {o : Int} (h : o ≠ 0) : cntO (emptyFs N) o = 0 := by
  unfold cntO emptyFs
  rw [List.countP_replicate, if_neg]
  show ¬ ((0 : Int) == o) = true
  simp only [beq_iff_eq]
  exact fun e => h e.symm
theorem emptyFs_held (N : Nat) (x : Int) : heldF (emptyFs N) x = none := by
  unfold heldF
  by_cases h : 0 < x
  · rw [emptyFs_cnt N (by omega), if_neg (by omega)]
  · rw [if_neg (fun hh => h hh.1)]
theorem range_heap (n : Nat) : HeapN ltN (List.range n) n := by
  intro i x y h0 hi hx hy
  rw [List.getElem?_range hi] at hx
  have hp := par_lt h0
  rw [List.getElem?_range (by omega)] at hy
  injection hx with hx
  injection hy with hy
  unfold ltN
  simp only [decide_eq_false_iff_not]
  omega
end Go.Mine
namespace Go.Proofs.Ytmbnmhcfafgnaaa
open Go.RowKit Go.Mine
theorem Try.infoPF : (Try.prog.info? 81).map (fun i => (i.zero, i.size, i.bytes)) = some (some (.pointer none), 1, 8) := by kernel_rfl
theorem mk_pf (n : Nat) (hn : n ≤ 1000000) (W : World) : (Instr.makeSlice 68 (.int .i64 (n : Int)) (.int .i64 (n : Int))).run Try.prog W = .ok (.slice (some ⟨W.heap.size, 0, none⟩) n n) (W.alloc (.cells (List.replicate n (Value.pointer none)).toArray 81)) := by
  obtain ⟨i0, hi0, hz0, hz1, hz2⟩ := info_parts Try.infoPF
  have hmk := run_make_n (P := Try.prog) 68 81 i0 (.pointer none) Try.underlying68 hi0 hz0 .i64 .i64 n (by rw [hz2]; omega) (by omega) W
  have hmf : madeCells (Value.pointer none).cells (n * i0.size) = (List.replicate n (Value.pointer none)).toArray := by
    rw [hz1, Nat.mul_one]
    apply Array.ext'
    apply List.ext_getElem?
    intro j
    simp only [madeCells, Value.cells]
    rw [List.getElem?_replicate]
    by_cases hj : j < n
    · simp [hj, Nat.mod_one]
    · simp [hj]
  rw [hmf] at hmk
  exact hmk
structure NewI (w0 w : World) (b ab mb N k : Nat) (quota : Int) (fl : List Nat) (iv : Value) : Prop where
  arr : Blk w ab 81 (fl.map (fun f => .pointer (some ⟨f, 0, none⟩)) ++ List.replicate (N - k) (.pointer none))
  len : fl.length = k
  fr : ∀ f ∈ fl, FrAt w f none Fr.empty ∧ w0.heap.size ≤ f
  nd : fl.Nodup
  blk : Blk w b 72 [.slice (some ⟨ab, 0, none⟩) N N, iv, .map (some mb), .int .i64 quota]
  sl : Sl w w0.heap.size 3 1 iv k (natCells (List.range k))
  map : MapI Try.prog 3 w mb 0 (fun _ => none)
  only : OnlyIn [] w0 w
theorem zeroFr (w : World) : (zeroValue 85).run Try.prog w = .ok (.agg #[.int .i64 0, .int .i64 0, .slice none 0 0]) w := by kernel_rfl

set_option maxRecDepth 100000 in
set_option maxHeartbeats 2000000 in
theorem pNew_bad (w : World) (n q : Int) (h : ¬ (1 ≤ n ∧ n ≤ 64 ∧ 1 ≤ q ∧ q ≤ n)) : Calls Try.prog 39 #[.int .i64 n, .int .i64 q] w fun e w' => e = .returned (.tuple #[.pointer none, .int .i64 3]) ∧ w = w' := by
  by_cases h1 : n < 1
  · have d1 : decide (n < 1) = true := decide_eq_true h1
    go_enter Try.func39, Try.ntmps39
    go_wp2
    go_ret2
    exact ⟨rfl, rfl⟩
  have d1 : decide (n < 1) = false := decide_eq_false h1
  by_cases h2 : 64 < n
  · have d2 : decide (64 < n) = true := decide_eq_true h2
    go_enter Try.func39, Try.ntmps39
    go_wp2
    go_ret2
    exact ⟨rfl, rfl⟩
  have d2 : decide (64 < n) = false := decide_eq_false h2
  by_cases h3 : q < 1
  · have d3 : decide (q < 1) = true := decide_eq_true h3
    go_enter Try.func39, Try.ntmps39
    go_wp2
    go_ret2
    exact ⟨rfl, rfl⟩
  have d3 : decide (q < 1) = false := decide_eq_false h3
  have d4 : decide (n < q) = true := decide_eq_true (by omega)
  go_enter Try.func39, Try.ntmps39
  go_wp2
  go_ret2
  exact ⟨rfl, rfl⟩

set_option maxRecDepth 100000 in
set_option maxHeartbeats 2000000 in
theorem pNew_ok (w : World) (N : Nat) (q : Int) (h : 1 ≤ N ∧ N ≤ 64 ∧ 1 ≤ q ∧ q ≤ N) : Calls Try.prog 39 #[.int .i64 (N : Int), .int .i64 q] w fun e w' => ∃ b B iv, e = .returned (.tuple #[.pointer (some ⟨b, 0, none⟩), .int .i64 0]) ∧ PlAt w' w.heap.size b N 0 q B iv (List.range N) (emptyFs N) ∧ OnlyIn [] w w' := by
  have d1 : decide ((N : Int) < 1) = false := decide_eq_false (by omega)
  have d1' : decide (N < 1) = false := decide_eq_false (by omega)
  have d2 : decide (64 < (N : Int)) = false := decide_eq_false (by omega)
  have d2' : decide (64 < N) = false := decide_eq_false (by omega)
  have d3 : decide (q < 1) = false := decide_eq_false (by omega)
  have d4 : decide ((N : Int) < q) = false := decide_eq_false (by omega)
  have hmm := @run_makeMap Try.prog
  have hmk := mk_pf N (by omega) w
  have hq := h.2.2
  have hN := h.2.1
  obtain ⟨i0, hi0, hz0, hz1, hz2⟩ := info_parts Try.infoI23
  have hzf := zeroFr
  clear h
  go_enter Try.func39, Try.ntmps39
  go_wp2_with fail
  have hst : NewI w (((w.alloc (.cells (List.replicate N (Value.pointer none)).toArray 81)).alloc (.map #[] 0)).alloc (.cells #[.slice (some ⟨w.heap.size, 0, none⟩) N N, .slice none 0 0, .map (some (w.heap.size + 1)), .int .i64 q] 72)) (w.heap.size + 1 + 1) w.heap.size (w.heap.size + 1) N 0 q [] (.slice none 0 0) := by
    have hB := Blk.new ((w.alloc (.cells (List.replicate N (Value.pointer none)).toArray 81)).alloc (.map #[] 0)) 72 [.slice (some ⟨w.heap.size, 0, none⟩) N N, .slice none 0 0, .map (some (w.heap.size + 1)), .int .i64 q]
    have hM := (MapI.made (w.alloc (.cells (List.replicate N (Value.pointer none)).toArray 81)) Try.prog 3).alloc (.cells #[.slice (some ⟨w.heap.size, 0, none⟩) N N, .slice none 0 0, .map (some (w.heap.size + 1)), .int .i64 q] 72)
    simp only [World.size_alloc] at hB hM
    exact ⟨((Blk.new w 81 (List.replicate N (Value.pointer none))).alloc _).alloc _, rfl, by simp, by simp, hB, Sl.nil _ _ _ _, hM, by (repeat (first | (with_reducible assumption) | (with_reducible exact OnlyIn.refl _ _) | (with_reducible refine OnlyIn.setCell ?_ (by first | simp | (simp; omega)) _) | (with_reducible refine OnlyIn.drewN ?_ _) | (with_reducible refine OnlyIn.drew ?_) | (with_reducible refine OnlyIn.alloc ?_ _)))⟩
  rw [List.toArray_replicate] at hst
  have HST := Lib.hid hst
  generalize hw1 : World.alloc (World.alloc (World.alloc w _) _) _ = w1 at hst HST ⊢
  have hbb : w.heap.size + 1 + 1 < w1.heap.size := hst.blk.lt
  clear hst hmk
  go_loopw [30] (fun i wr => ∃ (k : Nat) (fl : List Nat) (iv : Value), k ≤ N ∧ i = .int .i64 (k : Int) ∧ Hid (NewI w wr (w.heap.size + 1 + 1) w.heap.size (w.heap.size + 1) N k q fl iv)) (fun i _ => N - (RowKit.intOf i).toNat)
  case atStart => exact ⟨0, [], .slice none 0 0, by omega, rfl, HST⟩
  case round =>
    clear HST
    obtain ⟨k, fl, iv, hk, rfl, HR⟩ := hrel
    by_cases hlt : k < N
    · have hI := HR.out
      obtain ⟨A, c, rfl, hc⟩ := hI.sl.val
      have c0 := hI.blk.cell (i := 0) rfl
      have ff := hI.arr.free k
      have hlw : w.heap.size < wr.heap.size := hI.arr.lt
      have ca : wr.cell? ⟨w.heap.size, k, none⟩ = some (.pointer none) := hI.arr.cell (by
        rw [List.getElem?_append_right (by simp [hI.len]), List.getElem?_replicate, if_pos (by simp [hI.len]; omega)])
      have hA1 := hI.arr.alloc (.cells #[.int .i64 0, .int .i64 0, .slice none 0 0] 85)
      have ff1 := hA1.free k
      have ca1 : (wr.alloc (.cells #[.int .i64 0, .int .i64 0, .slice none 0 0] 85)).cell? ⟨w.heap.size, k, none⟩ = some (.pointer none) := hA1.cell (by
        rw [List.getElem?_append_right (by simp [hI.len]), List.getElem?_replicate, if_pos (by simp [hI.len]; omega)])
      have hb0 : w.heap.size + 1 + 1 ≠ w.heap.size := by omega
      have hB1 := (hI.blk.far (p := ⟨w.heap.size, k, none⟩) hb0 (.pointer (some ⟨wr.heap.size, 0, none⟩))).alloc (.cells #[.int .i64 0, .int .i64 0, .slice none 0 0] 85)
      have hA2 := (hI.arr.set k (.pointer (some ⟨wr.heap.size, 0, none⟩))).alloc (.cells #[.int .i64 0, .int .i64 0, .slice none 0 0] 85)
      have ho1 : OnlyIn [w.heap.size] wr ((wr.setCell ⟨w.heap.size, k, none⟩ (.pointer (some ⟨wr.heap.size, 0, none⟩))).alloc (.cells #[.int .i64 0, .int .i64 0, .slice none 0 0] 85)) := by (repeat (first | (with_reducible assumption) | (with_reducible exact OnlyIn.refl _ _) | (with_reducible refine OnlyIn.setCell ?_ (by first | simp | (simp; omega)) _) | (with_reducible refine OnlyIn.drewN ?_ _) | (with_reducible refine OnlyIn.drew ?_) | (with_reducible refine OnlyIn.alloc ?_ _)))
      have hN1 := Blk.new (wr.setCell ⟨w.heap.size, k, none⟩ (.pointer (some ⟨wr.heap.size, 0, none⟩))) 85 [.int .i64 0, .int .i64 0, .slice none 0 0]
      rw [World.size_setCell] at hN1
      have c1 := hB1.cell (i := 1) rfl
      have hab : w.heap.size ≠ w.heap.size + 1 := by omega
      have hs1 := hI.sl.only ho1 (fun g hg hm => by
        simp only [List.mem_singleton] at hm
        exact hI.sl.ne_blk hI.arr (by decide) (by rw [hg, hm]))
      have hfr1 : ∀ f ∈ fl, FrAt ((wr.setCell ⟨w.heap.size, k, none⟩ (.pointer (some ⟨wr.heap.size, 0, none⟩))).alloc (.cells #[.int .i64 0, .int .i64 0, .slice none 0 0] 85)) f none Fr.empty := fun f hf => (hI.fr f hf).1.only ho1 (fun hm => by
        simp only [List.mem_singleton] at hm
        exact hI.arr.ne_ (hI.fr f hf).1.blk (by decide) hm.symm) (fun bb e => by cases e)
      have hm1 := hI.map.only ho1 (fun hm => by
        simp only [List.mem_singleton] at hm
        exact hab hm.symm)
      have hlt1 : ∀ f ∈ fl, f < wr.heap.size := fun f hf => (hI.fr f hf).1.blk.lt
      have HS := Lib.hid (And.intro hB1 (And.intro hA2 (And.intro ho1 (And.intro hN1 (And.intro hs1 (And.intro hfr1 (And.intro hm1 hlt1)))))))
      have hwe : ∀ o, ((wr.alloc o).setCell ⟨w.heap.size, k, none⟩ (.pointer (some ⟨wr.heap.size, 0, none⟩))) = ((wr.setCell ⟨w.heap.size, k, none⟩ (.pointer (some ⟨wr.heap.size, 0, none⟩))).alloc o) := fun o => World.setCell_alloc_past _ _ _ _ hlw
      clear hI hA1 hB1 hA2 ho1 hN1 hs1 hfr1 hm1 hlt1
      generalize hW1 : World.alloc (World.setCell wr _ _) _ = W1 at HS c1
      have hne : some (w.heap.size + 1 + 1) ≠ (Value.slice A k c).ownBlock := HS.out.1.ne_own HS.out.2.2.2.2.1 (by decide)
      have hw1s : w.heap.size ≤ W1.heap.size := Nat.le_trans (Nat.le_of_lt hlw) HS.out.2.2.1.size
      go_wp2_with (at_builtin; refine wpList_append_sl rfl _ _ 69 rfl w.heap.size 3 i0 _ 1 8 Try.underlying69 hi0 hz0 hz1 hz2 rfl (by decide) (.slice A k c) k _ rfl (HS.out.2.2.2.2.1.alloc _) (.slice (some ⟨W1.heap.size, 0, none⟩) 1 1) 1 (natCells [k]) rfl (Rd.lit W1 (natCells [k]) 3 1 rfl) (by simp [natCells, Value.oneCell']) (by simp only [maxLen]; omega) (by omega) (by simp; omega) ?_; intro v5 w5 hs5 hg5 hat5; obtain ⟨A5, c5, rfl, hc5⟩ := hs5.val; have hb5 := (HS.out.1.alloc (.cells (natCells [k]).toArray 3)).grown hg5 hne; have e1 := hb5.cell (i := 1) rfl; have f5 := hb5.free 1; have HZ := Lib.hid (And.intro hs5 (And.intro hg5 (And.intro hat5 hb5))); clear hs5 hg5 hat5 hb5)
      go_roundw
      case measure => simp [RowKit.intOf]; omega
      case rel =>
        obtain ⟨hB1, hA2, ho1, hN1, hs1, hfr1, hm1, hlt1⟩ := HS.out
        obtain ⟨hs5, hg5, hat5, hb5⟩ := HZ.out
        have hI := HR.out
        have ho5 : OnlyIn (Value.slice A k c).ownBlock.toList W1 w5 := ((OnlyIn.refl _ _).alloc _).grown hg5 (fun g hg => .inl (by simp [hg]))
        refine ⟨k + 1, fl ++ [wr.heap.size], .slice A5 (k + 1) c5, by omega, by go_num, Lib.hid ?_⟩
        have ht6 : OnlyIn ((w.heap.size + 1 + 1) :: (Value.slice A k c).ownBlock.toList) W1 (w5.setCell ⟨w.heap.size + 1 + 1, 1, none⟩ (.slice A5 (k + 1) c5)) := (ho5.mono (fun j _ hj => List.mem_cons_of_mem _ hj)).setCell (.inl (by simp)) _
        have hown : ∀ {g : Nat} {t : TypeId} {cs : List Value}, Blk W1 g t cs → t ≠ 3 → t ≠ 72 → g ∉ (w.heap.size + 1 + 1) :: (Value.slice A k c).ownBlock.toList := fun {g t cs} hg ht1 ht2 hm => by
          simp only [List.mem_cons, Option.mem_toList] at hm
          rcases hm with hm | hm
          · exact hg.ne_ hB1 ht2 hm
          · exact hg.ne_own hs1 (fun e => ht1 e.symm) hm.symm
        refine ⟨?_, by simp [hI.len], fun f hf => ?_, ?_, hb5.set 1 (.slice A5 (k + 1) c5), ?_, hm1.only ht6 fun hm => ?_, ?_⟩
        · have := hA2.only ht6 (hown hA2 (by decide) (by decide))
          have e : ((fl.map (fun f => Value.pointer (some ⟨f, 0, none⟩)) ++ List.replicate (N - k) (Value.pointer none)).set k (Value.pointer (some ⟨wr.heap.size, 0, none⟩))) = (fl ++ [wr.heap.size]).map (fun f => Value.pointer (some ⟨f, 0, none⟩)) ++ List.replicate (N - (k + 1)) (Value.pointer none) := by
            have hl := hI.len
            have h2 : N - k = (N - (k + 1)) + 1 := by omega
            rw [h2, List.replicate_succ, List.set_append_right _ _ (by simp [hl])]
            simp [hl]
          rw [e] at this
          exact this
        · rcases List.mem_append.1 hf with hf | hf
          · exact ⟨(hfr1 f hf).only ht6 (hown (hfr1 f hf).blk (by decide) (by decide)) (fun bb e => by cases e), (hI.fr f hf).2⟩
          · simp only [List.mem_singleton] at hf
            subst hf
            refine ⟨⟨hN1.only ht6 (hown hN1 (by decide) (by decide)), List.length_replicate, fun _ => rfl, fun bb e => by cases e⟩, by omega⟩
        · refine List.nodup_append.2 ⟨hI.nd, by simp, fun x hx y hy e => ?_⟩
          simp only [List.mem_singleton] at hy
          have := hlt1 x hx
          omega
        · have e : natCells (List.range (k + 1)) = natCells (List.range k) ++ natCells [k] := by rw [List.range_succ, natCells_append]
          rw [e]
          exact hs5.setCell (p := ⟨w.heap.size + 1 + 1, 1, none⟩) (hs5.ne_blk hb5 (by decide)) _
        · simp only [List.mem_cons, Option.mem_toList] at hm
          rcases hm with hm | hm
          · omega
          · rcases hs1.2 with ⟨e, -⟩ | ⟨g, off, cap, cur, e, -, hg, -⟩
            · rw [e] at hm; cases hm
            · rw [e] at hm
              injection hm with hm
              exact hm1.ne_cells hg hm.symm
        · refine (hI.only.then ho1 (fun j hj => ?_)).then ht6 (fun j hj => ?_)
          · simp only [List.mem_singleton] at hj
            exact .inr (by omega)
          · simp only [List.mem_cons, Option.mem_toList] at hj
            rcases hj with hj | hj
            · exact .inr (by omega)
            · exact .inr (hs1.own_lt j hj).1
    · obtain rfl : k = N := by omega
      go_wp2_with fail
      go_ret2
      have hI := HR.out
      have hfb : ∀ i, i < k → ((fl.getD i 0) ∈ fl) := fun i hi => by
        rw [List.getD_eq_getElem?_getD, List.getElem?_eq_getElem (by rw [hI.len]; exact hi)]
        exact List.getElem_mem _
      have hbo : ∀ i, (⟨w.heap.size, w.heap.size + 1, fl, List.replicate k none⟩ : PB).bo i = none := fun i => by
        unfold PB.bo
        rw [List.getD_eq_getElem?_getD, List.getElem?_replicate]
        split <;> rfl
      refine ⟨w.heap.size + 1 + 1, ⟨w.heap.size, w.heap.size + 1, fl, List.replicate k none⟩, iv, rfl, ⟨hI.blk, by rw [List.length_range]; exact hI.sl, by rw [emptyFs_free], by rw [List.length_range]; exact range_heap k, ⟨?_, hI.len, by simp, by simp [emptyFs], fun i hi => ?_, fun i j hi hj e => ?_, fun i j x hi hj e => ?_, hI.map.ext fun x _ => emptyFs_held k x, ⟨Nat.le_refl _, by show w.heap.size ≤ w.heap.size + 1; omega⟩, fun i hi => (hI.fr _ (hfb i hi)).2, fun i x hi e => ?_⟩, by omega, hI.only.size, hq.1, hN⟩, hI.only⟩
      · have := hI.arr
        rw [Nat.sub_self, List.replicate_zero, List.append_nil] at this
        exact this
      · rw [hbo, emptyFs_at]
        exact (hI.fr _ (hfb i hi)).1
      · have h1 : i < fl.length := by rw [hI.len]; exact hi
        have h2 : j < fl.length := by rw [hI.len]; exact hj
        unfold PB.fb at e
        rw [List.getD_eq_getElem?_getD, List.getD_eq_getElem?_getD, List.getElem?_eq_getElem h1, List.getElem?_eq_getElem h2] at e
        rcases Nat.lt_trichotomy i j with hh | hh | hh
        · exact absurd e (List.pairwise_iff_getElem.1 hI.nd i j h1 h2 hh)
        · exact hh
        · exact absurd e.symm (List.pairwise_iff_getElem.1 hI.nd j i h2 h1 hh)
      · rw [hbo] at e; cases e
      · rw [hbo] at e; cases e
end Go.Proofs.Ytmbnmhcfafgnaaa
