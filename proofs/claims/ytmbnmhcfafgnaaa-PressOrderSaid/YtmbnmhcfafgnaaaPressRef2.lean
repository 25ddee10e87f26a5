/-
  The reference of press: Plan.
-/
import Derived.Test.YtmbnmhcfafgnaaaPressRef
import Derived.Deep.LoopGhost
namespace Go.Mine
open Go.RowKit
theorem sl_fresh (w : World) (t : TypeId) (size : Nat) (base : Nat) (hb : base ≤ w.heap.size) : Sl (w.alloc (.cells #[] t)) base t size (.slice (some ⟨w.heap.size, 0, none⟩) 0 0) 0 [] := by
  refine ⟨by simp, .inr ⟨w.heap.size, 0, 0, #[], rfl, hb, ?_, by omega, by omega, by simp, fun j hj => by omega⟩⟩
  exact World.alloc_heap_new w _
end Go.Mine
namespace Go.Proofs.Ytmbnmhcfafgnaaa
open Go.RowKit Go.Mine

theorem hcs_one (l : List Holder) : ∀ u ∈ hcs l, u.oneCell' = true := by
  intro u hu
  obtain ⟨x, -, hx⟩ := List.mem_flatMap.1 hu
  simp only [Holder.cells, List.mem_cons, List.not_mem_nil, or_false] at hx
  rcases hx with rfl | rfl <;> rfl
theorem hcs_zero {L : List Holder} {a : Nat} {x : Holder} (hx : L[a]? = some x) : (hcs L).set (a * 2 + 1) (.int .i64 0) = hcs (L.set a ⟨x.id, 0⟩) := by
  have ha := (List.getElem?_eq_some_iff.1 hx).1
  rw [← hcs_set ha]
  congr 1
  have h1 := hcs_id hx
  obtain ⟨h2, h3⟩ := List.getElem?_eq_some_iff.1 h1
  simp only
  rw [← h3, List.set_getElem_self]

/-- What a plan answers. -/
def PlanAns (W : World) (l : List Holder) (free want : Int) (e : Ending) (w' : World) : Prop :=
  ∃ u, e = .returned (.tuple #[u, .int .i64 (planR l free want).2.1, .int .i64 (planR l free want).2.2]) ∧ Sl w' W.heap.size 3 1 u (planR l free want).1.length (intCells (planR l free want).1) ∧ OnlyIn [] W w'
theorem planAns_bad {W w' : World} {l : List Holder} {free want : Int} (h : ¬ PlanOk l free want) (ht : OnlyIn [] W w') : PlanAns W l free want (.returned (.tuple #[.slice none 0 0, .int .i64 0, .int .i64 2])) w' := by
  unfold PlanAns planR
  rw [if_neg h]
  exact ⟨_, rfl, Sl.nil _ _ _ _, ht⟩
theorem planAns_ok {W w' : World} {l : List Holder} {free want : Int} (h : PlanOk l free want) {m : Nat} {f : Int} (hp : planF (vict l) free want = ((vict l).take m, f)) {u : Value} (hm : m ≤ (vict l).length) (hs : Sl w' W.heap.size 3 1 u m (intCells (((vict l).take m).map (·.id)))) (ht : OnlyIn [] W w') :
    PlanAns W l free want (.returned (.tuple #[u, .int .i64 f, .int .i64 0])) w' := by
  unfold PlanAns planR
  rw [if_pos h, hp]
  have hl : (((vict l).take m).map (·.id)).length = m := by rw [List.length_map, List.length_take]; omega
  exact ⟨u, rfl, by rw [hl]; exact hs, ht⟩

theorem planAns_drew {W w' : World} {l : List Holder} {free want : Int} {e : Ending} (h : PlanAns W l free want e w') (k : Nat) : PlanAns W l free want e (w'.drewN k) := by
  obtain ⟨u, h1, h2, h3⟩ := h
  exact ⟨u, h1, h2.drewN k, h3.drewN k⟩
theorem sl_apart2 {w : World} {base base' : Nat} {v u : Value} {n m size size' : Nat} {xs ys : List Value} (h1 : Sl w base 41 size v n xs) (h2 : Sl w base' 3 size' u m ys) {g : Nat} (hg : v.ownBlock = some g) : some g ≠ u.ownBlock := by
  intro e
  obtain ⟨c1, e1⟩ := h1.type_ g hg
  obtain ⟨c2, e2⟩ := h2.type_ g e.symm
  rw [e1] at e2
  injection e2 with e2
  injection e2 with _ e2
  exact absurd e2 (by decide)
theorem sl_apart {w : World} {base base' : Nat} {v u : Value} {n m size size' : Nat} {xs ys : List Value} (h1 : Sl w base 41 size v n xs) (h2 : Sl w base' 3 size' u m ys) {g : Nat} (hg : v.ownBlock = some g) (e : u.ownBlock = some g) : False :=
  sl_apart2 h1 h2 hg e.symm
/-- Behind the append: what the store wants, and what it leaves. -/
theorem plan_store {W wr w7 : World} {g off n c a m d : Nat} {B : Option Addr} {xi xf : Int} {L L2 : List Holder} {ids : List Int} (hg7 : (wr.alloc (.cells (intCells [xi]).toArray 3)).grownBy w7 (Value.slice B m d).ownBlock)
    (hs1 : Sl wr W.heap.size 41 2 (.slice (some ⟨g, off, none⟩) n c) n (hcs L)) (hs2 : Sl wr W.heap.size 3 1 (.slice B m d) m (intCells ids)) (hto : OnlyIn [] W wr)
    (hgf : (hcs L)[a * 2 + 1]? = some (.int .i64 xf)) (hz : (hcs L).set (a * 2 + 1) (.int .i64 0) = hcs L2) :
    w7.cell? ⟨g, off + a * 2 + 1, none⟩ = some (.int .i64 xf) ∧ w7.frozen? ⟨g, off + a * 2 + 1, none⟩ = false ∧ Sl (w7.setCell ⟨g, off + a * 2 + 1, none⟩ (.int .i64 0)) W.heap.size 41 2 (.slice (some ⟨g, off, none⟩) n c) n (hcs L2) ∧
      OnlyIn [] W (w7.setCell ⟨g, off + a * 2 + 1, none⟩ (.int .i64 0)) := by
  have h1 : Sl w7 W.heap.size 41 2 (.slice (some ⟨g, off, none⟩) n c) n (hcs L) := (hs1.alloc _).grown hg7 (fun g' hg' => sl_apart2 hs1 hs2 hg')
  have hb := (hs1.own_lt g rfl).1
  have a1 := h1.cell_at rfl hgf
  have s1 := h1.stored rfl (a * 2 + 1) (.int .i64 0)
  rw [hz, ← Nat.add_assoc] at s1
  rw [← Nat.add_assoc] at a1
  refine ⟨a1, h1.free_at rfl _, s1, ?_⟩
  have ht7 : OnlyIn [] W w7 := (hto.alloc _).grown hg7 (fun k hk => .inr (hs2.own_lt k hk).1)
  exact ht7.setCell (.inr hb) _

set_option maxRecDepth 100000 in
set_option maxHeartbeats 4000000 in
theorem rPlan_any (W : World) (A : Option Addr) (n c : Nat) (l : List Holder) (h : Rd W 2 (.slice A n c) n (hcs l)) (hn : l.length = n) (hnc : n ≤ c) (free want : Int) :
    Calls Try.prog 17 #[.slice A n c, .int .i64 free, .int .i64 want] W fun e w' => PlanAns W l free want e w' := by
  have hch := rCheck_any W A n c l h hn hnc
  obtain ⟨i0, hi0, hz0, hz1, hz2⟩ := info_parts Try.infoHold
  obtain ⟨j0, hj0, hy0, hy1, hy2⟩ := info_parts Try.infoI28
  rcases checkF_cases l with ⟨hO, e⟩ | ⟨hO, e⟩
  · rw [e] at hch
    by_cases h1 : free < 0
    · have d1 : decide (free < 0) = true := decide_eq_true h1
      have HB := Lib.hid (fun w' (ht : OnlyIn [] W w') => planAns_bad (l := l) (free := free) (want := want) (fun hp => by have := hp.2.1; omega) ht)
      clear h hn hO e
      go_enter Try.func17, Try.ntmps17
      go_wp2_with (go_at_call 20; refine hch.mono ?_; rintro e w1 ⟨rfl, ht⟩; clear hch)
      go_ret3
      exact HB.out _ ht
    have d1 : decide (free < 0) = false := decide_eq_false h1
    by_cases h2 : 10000 < free
    · have d2 : decide ((10000 : Int) < free) = true := decide_eq_true h2
      have HB := Lib.hid (fun w' (ht : OnlyIn [] W w') => planAns_bad (l := l) (free := free) (want := want) (fun hp => by have := hp.2.2.1; omega) ht)
      clear h hn hO e
      go_enter Try.func17, Try.ntmps17
      go_wp2_with (go_at_call 20; refine hch.mono ?_; rintro e w1 ⟨rfl, ht⟩; clear hch)
      go_ret3
      exact HB.out _ ht
    have d2 : decide ((10000 : Int) < free) = false := decide_eq_false h2
    by_cases h3 : want < 0
    · have d3 : decide (want < 0) = true := decide_eq_true h3
      have HB := Lib.hid (fun w' (ht : OnlyIn [] W w') => planAns_bad (l := l) (free := free) (want := want) (fun hp => by have := hp.2.2.2.1; omega) ht)
      clear h hn hO e
      go_enter Try.func17, Try.ntmps17
      go_wp2_with (go_at_call 20; refine hch.mono ?_; rintro e w1 ⟨rfl, ht⟩; clear hch)
      go_ret3
      exact HB.out _ ht
    have d3 : decide (want < 0) = false := decide_eq_false h3
    by_cases h4 : 10000 < want
    · have d4 : decide ((10000 : Int) < want) = true := decide_eq_true h4
      have HB := Lib.hid (fun w' (ht : OnlyIn [] W w') => planAns_bad (l := l) (free := free) (want := want) (fun hp => by have := hp.2.2.2.2; omega) ht)
      clear h hn hO e
      go_enter Try.func17, Try.ntmps17
      go_wp2_with (go_at_call 20; refine hch.mono ?_; rintro e w1 ⟨rfl, ht⟩; clear hch)
      go_ret3
      exact HB.out _ ht
    have d4 : decide ((10000 : Int) < want) = false := decide_eq_false h4
    have hn64 : n ≤ 64 := by rw [← hn]; exact hO.1
    have hv64 := vict_len hO
    have HR := Lib.hid (And.intro h (And.intro hn (And.intro hO (And.intro (show PlanOk l free want from ⟨hO, by omega, by omega, by omega, by omega⟩) hv64))))
    have hrd := fun w1 (ho : OnlyIn [] W w1) => h.cells (w' := w1) fun p u hp => ho.cell hp (by simp)
    have HRD := Lib.hid hrd
    clear h hn hO e hv64 hrd
    have hfr1 : 0 ≤ free := by omega
    have hfr2 : free ≤ 10000 := by omega
    go_enter Try.func17, Try.ntmps17
    go_wp2_with (first | (go_at_call 20; refine hch.mono ?_; rintro e w1 ⟨rfl, ht⟩; clear hch) | (at_builtin; refine wpList_append_sl rfl _ _ 22 rfl W.heap.size 41 i0 _ 2 16 Try.underlying22 hi0 hz0 hz1 hz2 rfl (by decide) (.slice (some ⟨w1.heap.size, 0, none⟩) 0 0) 0 [] rfl (sl_fresh w1 41 2 W.heap.size ht.size) (.slice A n c) n (hcs l) rfl (HRD.out _ (ht.alloc _)) (hcs_one l) (by simp only [maxLen]; omega) (by omega) (by have := ht.size; simp; omega) ?_; intro v5 w5 hs5 hg5 hat5))
    rw [List.nil_append, Nat.zero_add] at hs5
    have ht5 : OnlyIn [] W w5 := (ht.alloc (.cells #[] 41)).grown hg5 (fun g hg => .inr (by simp [Value.ownBlock] at hg; have := ht.size; omega))
    obtain ⟨A5, c5, rfl, hc5⟩ := hs5.val
    have hfi := fun (m : Nat) w9 (hs : Sl w9 W.heap.size 41 2 (.slice A5 n c5) n (hcs (restF l m))) => rFirst_any w9 A5 n c5 (restF l m) (Rd.of_sl hs) (by rw [restF_length, HR.out.2.1]) hc5 (by omega)
    have HFI := Lib.hid hfi
    have hs50 : Sl w5 W.heap.size 41 2 (.slice A5 n c5) n (hcs (restF l 0)) := by rw [restF_zero]; exact hs5
    have hf5 := hfi 0 w5 hs50
    obtain ⟨q0, hq0⟩ : ∃ q0, atF (firstTo (restF l 0) n) = q0 := ⟨_, rfl⟩
    rw [hq0] at hf5
    have HQ0 := Lib.hid hq0
    clear hq0
    have HS5 := Lib.hid (And.intro hs50 ht5)
    clear hs5 hg5 hat5 ht hs50 ht5 hfi
    go_wp2_with fail
    refine hf5.mono ?_
    rintro e w6 ⟨rfl, ht6⟩
    have HS6 := Lib.hid (And.intro (HS5.out.1.only ht6 (by simp)) (HS5.out.2.trans ht6))
    clear hf5 ht6
    go_wp2_with fail
    go_loopg [1, 10, 11] ((vict l).length) (fun kx s1 s10 s11 wr => ∃ (m : Nat) (f : Int) (B : Option Addr) (d : Nat), m + kx = (vict l).length ∧ s1 = .int .i64 f ∧ s10 = .slice B m d ∧ s11 = .int .i64 (atF (firstTo (restF l m) n)) ∧ 0 ≤ f ∧ f ≤ 10000 + 64 * m ∧ Hid (PlanAt (vict l) free want m f ∧ Sl wr W.heap.size 41 2 (.slice A5 n c5) n (hcs (restF l m)) ∧ Sl wr W.heap.size 3 1 (.slice B m d) m (intCells (((vict l).take m).map (·.id))) ∧ OnlyIn [] W wr))
    case atStart => exact ⟨0, free, none, 0, by omega, rfl, rfl, by rw [HQ0.out], hfr1, by omega, Lib.hid ⟨PlanAt.start _ _ _, HS6.out.1, Sl.nil _ _ _ _, HS6.out.2⟩⟩
    case round =>
      clear HS6 HS5
      obtain ⟨m, f, B, d, hkx, rfl, rfl, rfl, hf1, hf2, HK⟩ := hrel
      have hm64 : m ≤ 64 := by have := HR.out.2.2.2.2; omega
      by_cases hm : m < (vict l).length
      · obtain ⟨a, hfa, ha, hax, hra⟩ := first_rest HR.out.2.2.1 hm
        rw [restF_length, HR.out.2.1] at hfa
        rw [hfa]
        simp only [atF]
        have han : a < n := by rw [← HR.out.2.1]; exact ha
        have d5 : decide ((0 : Int) ≤ (a : Int)) = true := decide_eq_true (by omega)
        by_cases hw : f < want
        · have d6 : decide (f < want) = true := decide_eq_true hw
          obtain ⟨x, hx⟩ : ∃ x, l[a]'ha = x := ⟨_, rfl⟩
          rw [hx] at hax hra
          have hgv : (vict l)[m]? = some x := by rw [List.getElem?_eq_getElem hm, hax]
          have hxb := vict_fr HR.out.2.2.1 hgv
          have hgr : (restF l m)[a]? = some x := by
            have hal : a < (restF l m).length := by rw [restF_length]; exact ha
            rw [List.getD_eq_getElem?_getD, List.getElem?_eq_getElem hal] at hra
            rw [List.getElem?_eq_getElem hal]
            exact congrArg some hra
          obtain ⟨hP, hs1, hs2, hto⟩ := HK.out
          obtain ⟨g, off, hAe, a0, a1⟩ := rd_hold (Rd.of_sl hs1) (by rw [restF_length, HR.out.2.1]) hgr
          subst hAe
          have hPs := hP.step hgv (by omega)
          have hnx := rest_next HR.out.2.2.1 hm ha (by rw [hx, hax])
          rw [hx] at hnx
          have hz := hcs_zero hgr
          rw [hnx] at hz
          have htk := take_snoc (vict l) hm
          rw [← hax] at htk
          obtain ⟨xi, hxi⟩ : ∃ z, x.id = z := ⟨_, rfl⟩
          obtain ⟨xf, hxf⟩ : ∃ z, x.fr = z := ⟨_, rfl⟩
          rw [hxi] at a0
          rw [hxf] at a1 hPs hxb
          have hgf := hcs_fr hgr
          rw [hxf] at hgf
          have hids : ((vict l).take (m + 1)).map (·.id) = ((vict l).take m).map (·.id) ++ [xi] := by rw [htk, List.map_append]; simp [hxi]
          have hww : IntKind.i64.wrap (f + xf) = f + xf := by rw [IntKind.wrap_i64]; omega
          have f0 := hs1.free_at rfl (off + a * 2 + 1)
          have HQ := Lib.hid (And.intro hPs (And.intro hz (And.intro hids (And.intro hgf HK.out))))
          clear hgf hP hs1 hs2 hto hPs hnx hz htk hids hgv hgr hra hax hx hxi hxf hfa HK
          have hst := fun w7 v7 (hg7 : (wr.alloc (.cells (intCells [xi]).toArray 3)).grownBy w7 (Value.slice B m d).ownBlock) (hs7 : Sl w7 W.heap.size 3 1 v7 (m + 1) (intCells (((vict l).take m).map (·.id)) ++ intCells [xi])) => plan_store (wr := wr) (w7 := w7) hg7 HQ.out.2.2.2.2.2.1 HQ.out.2.2.2.2.2.2.1 HQ.out.2.2.2.2.2.2.2 HQ.out.2.2.2.1 HQ.out.2.1
          have HST := Lib.hid hst
          clear hst
          go_wp2_with (first | (at_builtin; refine wpList_append_sl rfl _ _ 27 rfl W.heap.size 3 j0 _ 1 8 Try.underlying27 hj0 hy0 hy1 hy2 rfl (by decide) (.slice B m d) m _ rfl (HQ.out.2.2.2.2.2.2.1.alloc _) _ 1 (intCells [xi]) rfl (Rd.lit wr (intCells [xi]) 3 1 rfl) (intCells_one _) (by simp only [maxLen]; omega) (by omega) (by have := HQ.out.2.2.2.2.2.2.2.size; simp; omega) ?_; intro v7 w7 hs7 hg7 hat7; obtain ⟨B7, d7, rfl, hd7⟩ := hs7.val; obtain ⟨a2, f2, hs8, ht8⟩ := HST.out w7 _ hg7 hs7; have hf8 := HFI.out (m + 1) _ hs8; clear a0 a1 f0) | (go_at_call 51; refine hf8.mono ?_; rintro e w9 ⟨rfl, ht9⟩))
          have hs79 : Sl w9 W.heap.size 3 1 (.slice B7 (m + 1) d7) (m + 1) (intCells (((vict l).take (m + 1)).map (·.id))) := by
            rw [HQ.out.2.2.1, intCells_append]
            exact (hs7.setCell (p := ⟨g, off + a * 2 + 1, none⟩) (fun e => sl_apart (HQ.out.2.2.2.2.2.1.alloc _ |>.grown hg7 (fun g' hg' => sl_apart2 HQ.out.2.2.2.2.2.1 HQ.out.2.2.2.2.2.2.1 hg')) hs7 rfl e) _).only ht9 (by simp)
          have hs19 := hs8.only ht9 (by simp)
          have HF := Lib.hid (And.intro hs79 (And.intro hs19 (ht8.trans ht9)))
          clear hs79 hs19 hs7 hs8 ht8 ht9 hg7 hat7 hf8 a2 f2
          go_wp2_with fail
          go_roundg ((vict l).length - (m + 1))
          case measure => omega
          case rel => exact ⟨m + 1, f + xf, B7, d7, by omega, by go_num, rfl, rfl, by omega, by omega, Lib.hid ⟨HQ.out.1, HF.out.2.1, HF.out.1, HF.out.2.2⟩⟩
        · have d6 : decide (f < want) = false := decide_eq_false hw
          obtain ⟨hP, hs1, hs2, hto⟩ := HK.out
          have HF := Lib.hid (fun (h : OnlyIn [] W wr) => planAns_ok HR.out.2.2.2.1 (hP.stop (.inl (by omega))) (by omega) hs2 h)
          have HT := Lib.hid hto
          clear hP hs1 hs2 hto HK hfa hax hra
          go_wp2_with fail
          go_ret3
          exact HF.out HT.out
      · have hfa := first_end HR.out.2.2.1 (m := m) (by omega)
        rw [restF_length, HR.out.2.1] at hfa
        rw [hfa]
        simp only [atF]
        obtain ⟨hP, hs1, hs2, hto⟩ := HK.out
        have HF := Lib.hid (fun (h : OnlyIn [] W wr) => planAns_ok HR.out.2.2.2.1 (hP.stop (.inr (by omega))) (by omega) hs2 h)
        have HT := Lib.hid hto
        clear hP hs1 hs2 hto HK hfa
        go_wp2_with fail
        go_ret3
        exact HF.out HT.out
  · rw [e] at hch
    have HB := Lib.hid (fun w' (ht : OnlyIn [] W w') => planAns_bad (l := l) (free := free) (want := want) (fun hp => hO hp.1) ht)
    clear h hn hO e
    go_enter Try.func17, Try.ntmps17
    go_wp2_with (go_at_call 20; refine hch.mono ?_; rintro e w1 ⟨rfl, ht⟩; clear hch)
    go_ret3
    exact HB.out _ ht
end Go.Proofs.Ytmbnmhcfafgnaaa
