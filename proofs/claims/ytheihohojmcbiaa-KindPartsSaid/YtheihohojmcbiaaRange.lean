/-
  A range over a function, at the wide fence: the statement, one round, the function's end. Nothing here names a program.
-/
import Derived.Test.YtheihohojmcbiaaBase
import Derived.Test.YtheihohojmcbiaaSlice
import Derived.RangeFuncNested
import Derived.RangeFuncBound
import Derived.RangeFuncCalls
import Derived.RangeFuncLeaves
import Derived.Shelf.Abstract
import Derived.Shelf.RegionOpen
import Derived.OwnWalkIn
import Derived.TacticsInMore
import Derived.LoopNIn
import Derived.LoopIn
namespace Go.Mine
open Go.RowKit

/-- The record of a loop over a function. -/
abbrev rec_ (fn : FuncId) (tmps : Array Value) (ps : Array Tmp) (assign body : Code) (D : Nat) (st : LoopState) (pe : Option Code) : Loop :=
  { state := st, pending := pe, fn := fn, tmps := tmps, params := ps, assign := assign, body := body, defers := D }

theorem OnlyIn.putObj {S : List Nat} {w W : World} (h : OnlyIn S w W) {l : Nat} (hl : l ∈ S ∨ w.heap.size ≤ l) (o : Obj) : OnlyIn S w (W.putObj l o) :=
  h.grown (grownBy_putObj' W l o) (fun k e => by cases e; exact hl)

theorem Blk.putObj {w : World} {b : Nat} {t : TypeId} {cs : List Value} (h : Blk w b t cs) {l : Nat} (hl : b ≠ l) (o : Obj) : Blk (w.putObj l o) b t cs :=
  (World.putObj_heap_other hl).trans h

/-- THE STATEMENT: the function is called at yield; behind it the record is ready, and what follows goes on, or it is done with a jump, which is taken. -/
theorem wpIn_range {P : Program} {g : Operand} {ps : Array Tmp} {assign body : Code} {Q : Exit → Act → World → Prop} {a : Act} {w : World}
    {gf : Nat} {lb : Array Value} (hg : a.eval g = .func (.func gf) #[] lb) (eg : ∀ args w, (callFunc gf args).run P w = .ok (.enter gf args) w)
    (h : ∀ fn, Calls P gf (#[.func (.yield (w.heap.size + 1)) #[] #[]] ++ lb) ((w.alloc (.deferred (some []))).alloc (.loop (rec_ fn a.tmps ps assign body w.heap.size .ready none))) fun e W2 =>
      (∃ v, e = .returned v) ∧
      ((W2.heap[w.heap.size + 1]? = some (.loop (rec_ fn a.tmps ps assign body w.heap.size .ready none)) ∧
          Q .normal { a with defers := { target := .collected w.heap.size, args := #[] } :: a.defers } (W2.putObj (w.heap.size + 1) (.loop (rec_ fn a.tmps ps assign body w.heap.size .exhausted none)))) ∨
        ∃ c, W2.heap[w.heap.size + 1]? = some (.loop (rec_ fn a.tmps ps assign body w.heap.size .done (some c))) ∧
          c.wpIn Fence.wide 0 P Q { a with defers := { target := .collected w.heap.size, args := #[] } :: a.defers } (W2.putObj (w.heap.size + 1) (.loop (rec_ fn a.tmps ps assign body w.heap.size .exhausted (some c)))))) :
    (Code.rangeFunc g ps assign body).wpIn Fence.wide 0 P Q a w := by
  refine wpIn_rangeFunc ?_
  intro fn hfn
  refine ⟨w.heap.size + 1, [{ target := .collected w.heap.size, args := #[] }], (w.alloc (.deferred (some []))).alloc (.loop (rec_ fn a.tmps ps assign body w.heap.size .ready none)),
    { target := .fn (.func gf) lb, args := #[.func (.yield (w.heap.size + 1)) #[] #[]] }, (w.alloc (.deferred (some []))).alloc (.loop (rec_ fn a.tmps ps assign body w.heap.size .ready none)), gf,
    #[.func (.yield (w.heap.size + 1)) #[] #[]] ++ lb, (w.alloc (.deferred (some []))).alloc (.loop (rec_ fn a.tmps ps assign body w.heap.size .ready none)), ?_, ?_, ?_, ?_, (fun h => by cases h), ?_⟩
  · exact run_enterLoop_outer _ _ _ _ _
  · simp only [resolve, hg]
    simp [go_sem]
  · intro f' _; trivial
  · simp [invoke, go_sem, eg]
  · refine callsIn_wide.2 ((h fn).mono ?_)
    rintro e W2 ⟨⟨v, rfl⟩, (⟨hl, hq⟩ | ⟨c, hl, hq⟩)⟩
    · exact ⟨none, _, run_endLoop (P := P) hl (by simp), hq⟩
    · exact ⟨some c, _, run_endLoop (P := P) hl (by simp), hq⟩

/-- How the body of a round may be left. -/
def roundOut (l : Nat) (fn : FuncId) (tmps : Array Value) (ps : Array Tmp) (assign body : Code) (D : Nat) (R : Ending → World → Prop) : Exit → Act → World → Prop
  | .normal, _, W => W.heap[l]? = some (.loop (rec_ fn tmps ps assign body D .busy none)) ∧ R (.returned (.bool true)) (W.putObj l (.loop (rec_ fn tmps ps assign body D .ready none)))
  | .ret, _, W => W.heap[l]? = some (.loop (rec_ fn tmps ps assign body D .busy none)) ∧ R (.returned (.bool false)) (W.putObj l (.loop (rec_ fn tmps ps assign body D .done (some .ret))))
  | .exit id, _, W => W.heap[l]? = some (.loop (rec_ fn tmps ps assign body D .busy none)) ∧ R (.returned (.bool false)) (W.putObj l (.loop (rec_ fn tmps ps assign body D .done (some (.exit id)))))
  | .goto t, _, W => W.heap[l]? = some (.loop (rec_ fn tmps ps assign body D .busy none)) ∧ R (.returned (.bool false)) (W.putObj l (.loop (rec_ fn tmps ps assign body D .done (some (.goto t)))))
  | .panic _, _, _ => False
  | .outgrown, _, _ => False

/-- ONE ROUND: what a call of yield comes to. -/
theorem yieldAt_body {P : Program} {l : Nat} {fn : FuncId} {tmps : Array Value} {ps : Array Tmp} {assign body : Code} {D : Nat} {args : Array Value} {W : World} {R : Ending → World → Prop}
    (hl : W.heap[l]? = some (.loop (rec_ fn tmps ps assign body D .ready none))) (hs : args.size = ps.size)
    (h : assign.wpIn (Fence.wide.inRound l) 0 P (Exit.then (fun a₁ W₁ => W₁.heap[l]? = some (.loop (rec_ fn tmps ps assign body D .ready none)) ∧
        body.wpIn (Fence.wide.inRound l) 0 P (roundOut l fn tmps ps assign body D R) a₁ (W₁.putObj l (.loop (rec_ fn tmps ps assign body D .busy none)))) (fun _ _ _ => False))
      { tmps := (ps.zip args).foldl (fun t (p, v) => t.setIfInBounds p v) tmps, defers := [] } W) :
    YieldAt Fence.wide 0 P l args W R := by
  have hy := run_yield (P := P) (args := args) hl hs
  refine ⟨fn, _, assign, body, hy, roundIn_of_wpIn trivial (wpIn_mono h ?_)⟩
  rintro e a₁ W₁ hp
  cases e with
  | normal =>
    obtain ⟨hl₁, hb⟩ := hp
    refine ⟨_, run_beginRound hl₁ rfl, wpIn_mono hb ?_⟩
    rintro e a₂ W₂ hp
    cases e with
    | normal => exact ⟨_, _, run_endRound (P := P) none hp.1, hp.2⟩
    | ret => exact ⟨_, _, run_endRound (P := P) (some .ret) hp.1, hp.2⟩
    | exit id => exact ⟨_, _, run_endRound (P := P) (some (.exit id)) hp.1, hp.2⟩
    | goto t => exact ⟨_, _, run_endRound (P := P) (some (.goto t)) hp.1, hp.2⟩
    | panic c => exact hp.elim
    | outgrown => exact hp.elim
  | ret => exact hp.elim
  | exit id => exact hp.elim
  | goto t => exact hp.elim
  | panic c => exact hp.elim
  | outgrown => exact hp.elim

/-- How the body of a round may be left, the record behind a name. -/
def outOf (l : Nat) (rc : LoopState → Option Code → Loop) (R : Ending → World → Prop) : Exit → Act → World → Prop
  | .normal, _, W => W.heap[l]? = some (.loop (rc .busy none)) ∧ R (.returned (.bool true)) (W.putObj l (.loop (rc .ready none)))
  | .ret, _, W => W.heap[l]? = some (.loop (rc .busy none)) ∧ R (.returned (.bool false)) (W.putObj l (.loop (rc .done (some .ret))))
  | .exit id, _, W => W.heap[l]? = some (.loop (rc .busy none)) ∧ R (.returned (.bool false)) (W.putObj l (.loop (rc .done (some (.exit id)))))
  | .goto t, _, W => W.heap[l]? = some (.loop (rc .busy none)) ∧ R (.returned (.bool false)) (W.putObj l (.loop (rc .done (some (.goto t)))))
  | .panic _, _, _ => False
  | .outgrown, _, _ => False

/-- THE STATEMENT, the record behind a name; with it the rule for a round. -/
theorem wpIn_range2 {P : Program} {g : Operand} {ps : Array Tmp} {assign body : Code} {Q : Exit → Act → World → Prop} {a : Act} {w : World}
    {gf : Nat} {lb : Array Value} (hg : a.eval g = .func (.func gf) #[] lb) (eg : ∀ args w, (callFunc gf args).run P w = .ok (.enter gf args) w)
    (h : ∀ rc : LoopState → Option Code → Loop,
      (∀ (args : Array Value) (W : World) (R : Ending → World → Prop), args.size = ps.size → W.heap[w.heap.size + 1]? = some (.loop (rc .ready none)) →
        assign.wpIn (Fence.wide.inRound (w.heap.size + 1)) 0 P (Exit.then (fun a₁ W₁ => W₁.heap[w.heap.size + 1]? = some (.loop (rc .ready none)) ∧
          body.wpIn (Fence.wide.inRound (w.heap.size + 1)) 0 P (outOf (w.heap.size + 1) rc R) a₁ (W₁.putObj (w.heap.size + 1) (.loop (rc .busy none)))) (fun _ _ _ => False))
          { tmps := (ps.zip args).foldl (fun t (p, v) => t.setIfInBounds p v) a.tmps, defers := [] } W →
        YieldAt Fence.wide 0 P (w.heap.size + 1) args W R) →
      Calls P gf (#[.func (.yield (w.heap.size + 1)) #[] #[]] ++ lb) ((w.alloc (.deferred (some []))).alloc (.loop (rc .ready none))) fun e W2 =>
        (∃ v, e = .returned v) ∧
        ((W2.heap[w.heap.size + 1]? = some (.loop (rc .ready none)) ∧
            Q .normal { a with defers := { target := .collected w.heap.size, args := #[] } :: a.defers } (W2.putObj (w.heap.size + 1) (.loop (rc .exhausted none)))) ∨
          ∃ c, W2.heap[w.heap.size + 1]? = some (.loop (rc .done (some c))) ∧
            c.wpIn Fence.wide 0 P Q { a with defers := { target := .collected w.heap.size, args := #[] } :: a.defers } (W2.putObj (w.heap.size + 1) (.loop (rc .exhausted (some c)))))) :
    (Code.rangeFunc g ps assign body).wpIn Fence.wide 0 P Q a w := by
  refine wpIn_range hg eg fun fn => ?_
  refine h (rec_ fn a.tmps ps assign body w.heap.size) fun args W R hs hl hb => yieldAt_body hl hs (wpIn_mono hb ?_)
  intro e a₁ W₁ hp
  cases e with
  | normal => exact ⟨hp.1, wpIn_mono hp.2 (fun e a₂ W₂ q => by cases e <;> exact q)⟩
  | _ => exact hp.elim

/-- What was there when the loop began, and the record, and the block for deferred calls. -/
structure InLoop (w1 W : World) (o : Obj) : Prop where
  rec_ : W.heap[w1.heap.size + 1]? = some o
  dfr : W.heap[w1.heap.size]? = some (.deferred (some []))

theorem InLoop.start (w1 : World) (o : Obj) : InLoop w1 ((w1.alloc (.deferred (some []))).alloc o) o := by
  refine ⟨?_, ?_⟩
  · have := World.alloc_heap_new (w1.alloc (.deferred (some []))) o
    rwa [World.size_alloc] at this
  · exact (Below.heap_alloc _ _ _ (by simp)).trans (World.alloc_heap_new w1 _)
theorem InLoop.only {w1 W W' : World} {o : Obj} {S : List Nat} (h : InLoop w1 W o) (ht : OnlyIn S W W') (h1 : w1.heap.size ∉ S) (h2 : w1.heap.size + 1 ∉ S) : InLoop w1 W' o :=
  ⟨(ht.block _ (Array.getElem?_eq_some_iff.1 h.rec_).1 h2).trans h.rec_, (ht.block _ (Array.getElem?_eq_some_iff.1 h.dfr).1 h1).trans h.dfr⟩
theorem InLoop.put {w1 W : World} {o : Obj} (h : InLoop w1 W o) (o' : Obj) : InLoop w1 (W.putObj (w1.heap.size + 1) o') o' :=
  ⟨World.putObj_heap_same (Array.getElem?_eq_some_iff.1 h.rec_).1, (World.putObj_heap_other (by omega)).trans h.dfr⟩
theorem InLoop.drewN {w1 W : World} {o : Obj} (h : InLoop w1 W o) (k : Nat) : InLoop w1 (W.drewN k) o := ⟨h.1, h.2⟩

theorem InLoop.grown {w1 W W' : World} {r : Loop} {row : Option Nat} (h : InLoop w1 W (.loop r)) (hg : W.grownBy W' row) (hr : ∀ g, row = some g → ∃ cur e, W.heap[g]? = some (.cells cur e (0, 0))) : InLoop w1 W' (.loop r) := by
  refine ⟨(hg.block _ (Array.getElem?_eq_some_iff.1 h.rec_).1 (fun e => ?_)).trans h.rec_, (hg.block _ (Array.getElem?_eq_some_iff.1 h.dfr).1 (fun e => ?_)).trans h.dfr⟩
  · obtain ⟨cur, t, hc⟩ := hr _ e.symm
    rw [h.rec_] at hc
    cases hc
  · obtain ⟨cur, t, hc⟩ := hr _ e.symm
    rw [h.dfr] at hc
    cases hc
theorem InLoop.alloc {w1 W : World} {o : Obj} (h : InLoop w1 W o) (o' : Obj) : InLoop w1 (W.alloc o') o := h.only (S := []) ((OnlyIn.refl _ _).alloc o') (by simp) (by simp)
theorem InLoop.setCell {w1 W : World} {r : Loop} {b : Nat} {t : TypeId} {cs : List Value} (h : InLoop w1 W (.loop r)) (hb : Blk W b t cs) (i : Nat) (u : Value) : InLoop w1 (W.setCell ⟨b, i, none⟩ u) (.loop r) := by
  refine h.grown (row := some b) ⟨rfl, rfl, rfl, by simp, fun k _ hk => Below.heap_setCell _ _ _ _ (fun e => hk (by rw [e]))⟩ (fun g hg => ⟨_, _, by injection hg with hg; subst hg; exact hb⟩)
theorem Sl.ne_obj {w : World} {base e size n : Nat} {v : Value} {xs : List Value} (h : Sl w base e size v n xs) {l : Nat} {r : Loop} (hl : w.heap[l]? = some (.loop r)) : v.ownBlock ≠ some l := by
  intro hk
  obtain ⟨cur, hc⟩ := h.type_ l hk
  rw [hl] at hc
  cases hc

/-- The end of a function that held one range over a function. -/
theorem leave_marks {P : Program} {fn : Func} {R : Ending → World → Prop} {a : Act} {W : World} {D : Nat} {v : Value} (hd : a.defers = [{ target := .collected D, args := #[] }]) (hK : W.heap[D]? = some (.deferred (some [])))
    (hr : (results fn a.tmps).run P (W.putObj D (.deferred none)) = .ok v (W.putObj D (.deferred none))) (hR : R (.returned v) (W.putObj D (.deferred none))) : bodyPostM Fence.wide 0 P fn R .ret a W := by
  show LeavesInM Fence.wide 0 P fn a.tmps R a.defers .returning W
  rw [hd]
  exact ⟨by simp, .inl ⟨D, _, rfl, run_takeDeferred hK, v, hr, hR⟩⟩

theorem results_one_cell {P : Program} {w : World} {fn : Func} {p : Tmp} {b : Nat} {ty : TypeId} {v : Value} (h : fn.results = #[.cell p ty]) (tmps : Array Value) (hp : tmps.getD p undef = .pointer (some ⟨b, 0, none⟩))
    (hl : (loadVar ty ⟨b, 0, none⟩).run P w = .ok v w) : (results fn tmps).run P w = .ok v w := by
  have ha : (asAddr (.pointer (some ⟨b, 0, none⟩))).run P w = .ok ⟨b, 0, none⟩ w := rfl
  simp only [results, h]
  simp only [Array.getD_eq_getD_getElem?] at hp
  simp [Sem.run_bind, Result.andThen, hp, ha, hl]

theorem loadVar_slice {P : Program} {w : World} {b : Nat} {t ty e : TypeId} {v : Value} (hb : Blk w b t [v]) (hu : P.underlying ty = some (.slice e)) : (loadVar ty ⟨b, 0, none⟩).run P w = .ok v w := by
  have hc := hb.cell (i := 0) rfl
  simp [loadVar, isAgg, run_underlying hu, go_sem, hc]

theorem YieldAt.mono_ {P : Program} {l : Nat} {args : Array Value} {W : World} {R R' : Ending → World → Prop} (h : YieldAt Fence.wide 0 P l args W R) (hr : ∀ e w', R e w' → R' e w') : YieldAt Fence.wide 0 P l args W R' := by
  obtain ⟨fn, tmps, assign, body, hy, hR⟩ := h
  exact ⟨fn, tmps, assign, body, hy, hR.mono hr⟩

end Go.Mine
