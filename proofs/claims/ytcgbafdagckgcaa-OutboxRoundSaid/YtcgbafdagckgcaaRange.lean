/-
  A range over a function, at the wide fence: the statement, one round, the function's end. Nothing here names a program.
-/
import Derived.Test.YtcgbafdagckgcaaBase
import Derived.RangeFuncNested
import Derived.RangeFuncBound
import Derived.RangeFuncCalls
import Derived.RangeFuncLeaves
import Derived.Shelf.Abstract
import Derived.Shelf.RegionOpen
import Derived.OwnWalkIn
import Derived.TacticsInMore
import Derived.LoopNIn
import Derived.LoopIn
namespace Go.Mine
open Go.RowKit

/-- The record of a loop over a function. -/
abbrev rec_ (fn : FuncId) (tmps : Array Value) (ps : Array Tmp) (assign body : Code) (D : Nat) (st : LoopState) (pe : Option Code) : Loop :=
  { state := st, pending := pe, fn := fn, tmps := tmps, params := ps, assign := assign, body := body, defers := D }

theorem OnlyIn.putObj {S : List Nat} {w W : World} (h : OnlyIn S w W) {l : Nat} (hl : l ∈ S ∨ w.heap.size ≤ l) (o : Obj) : OnlyIn S w (W.putObj l o) :=
  h.grown (grownBy_putObj' W l o) (fun k e => by cases e; exact hl)

theorem Blk.putObj {w : World} {b : Nat} {t : TypeId} {cs : List Value} (h : Blk w b t cs) {l : Nat} (hl : b ≠ l) (o : Obj) : Blk (w.putObj l o) b t cs :=
  (World.putObj_heap_other hl).trans h

/-- THE STATEMENT: the function is called at yield; behind it the record is ready, and what follows goes on, or it is done with a jump, which is taken. -/
theorem wpIn_range {P : Program} {g : Operand} {ps : Array Tmp} {assign body : Code} {Q : Exit → Act → World → Prop} {a : Act} {w : World}
    {gf : Nat} {lb : Array Value} (hg : a.eval g = .func (.func gf) #[] lb) (eg : ∀ args w, (callFunc gf args).run P w = .ok (.enter gf args) w)
    (h : ∀ fn, Calls P gf (#[.func (.yield (w.heap.size + 1)) #[] #[]] ++ lb) ((w.alloc (.deferred (some []))).alloc (.loop (rec_ fn a.tmps ps assign body w.heap.size .ready none))) fun e W2 =>
      (∃ v, e = .returned v) ∧
      ((W2.heap[w.heap.size + 1]? = some (.loop (rec_ fn a.tmps ps assign body w.heap.size .ready none)) ∧
          Q .normal { a with defers := { target := .collected w.heap.size, args := #[] } :: a.defers } (W2.putObj (w.heap.size + 1) (.loop (rec_ fn a.tmps ps assign body w.heap.size .exhausted none)))) ∨
        ∃ c, W2.heap[w.heap.size + 1]? = some (.loop (rec_ fn a.tmps ps assign body w.heap.size .done (some c))) ∧
          c.wpIn Fence.wide 0 P Q { a with defers := { target := .collected w.heap.size, args := #[] } :: a.defers } (W2.putObj (w.heap.size + 1) (.loop (rec_ fn a.tmps ps assign body w.heap.size .exhausted (some c)))))) :
    (Code.rangeFunc g ps assign body).wpIn Fence.wide 0 P Q a w := by
  refine wpIn_rangeFunc ?_
  intro fn hfn
  refine ⟨w.heap.size + 1, [{ target := .collected w.heap.size, args := #[] }], (w.alloc (.deferred (some []))).alloc (.loop (rec_ fn a.tmps ps assign body w.heap.size .ready none)),
    { target := .fn (.func gf) lb, args := #[.func (.yield (w.heap.size + 1)) #[] #[]] }, (w.alloc (.deferred (some []))).alloc (.loop (rec_ fn a.tmps ps assign body w.heap.size .ready none)), gf,
    #[.func (.yield (w.heap.size + 1)) #[] #[]] ++ lb, (w.alloc (.deferred (some []))).alloc (.loop (rec_ fn a.tmps ps assign body w.heap.size .ready none)), ?_, ?_, ?_, ?_, (fun h => by cases h), ?_⟩
  · exact run_enterLoop_outer _ _ _ _ _
  · simp only [resolve, hg]
    simp [go_sem]
  · intro f' _; trivial
  · simp [invoke, go_sem, eg]
  · refine callsIn_wide.2 ((h fn).mono ?_)
    rintro e W2 ⟨⟨v, rfl⟩, (⟨hl, hq⟩ | ⟨c, hl, hq⟩)⟩
    · exact ⟨none, _, run_endLoop (P := P) hl (by simp), hq⟩
    · exact ⟨some c, _, run_endLoop (P := P) hl (by simp), hq⟩

/-- How the body of a round may be left. -/
def roundOut (l : Nat) (fn : FuncId) (tmps : Array Value) (ps : Array Tmp) (assign body : Code) (D : Nat) (R : Ending → World → Prop) : Exit → Act → World → Prop
  | .normal, _, W => W.heap[l]? = some (.loop (rec_ fn tmps ps assign body D .busy none)) ∧ R (.returned (.bool true)) (W.putObj l (.loop (rec_ fn tmps ps assign body D .ready none)))
  | .ret, _, W => W.heap[l]? = some (.loop (rec_ fn tmps ps assign body D .busy none)) ∧ R (.returned (.bool false)) (W.putObj l (.loop (rec_ fn tmps ps assign body D .done (some .ret))))
  | .exit id, _, W => W.heap[l]? = some (.loop (rec_ fn tmps ps assign body D .busy none)) ∧ R (.returned (.bool false)) (W.putObj l (.loop (rec_ fn tmps ps assign body D .done (some (.exit id)))))
  | .goto t, _, W => W.heap[l]? = some (.loop (rec_ fn tmps ps assign body D .busy none)) ∧ R (.returned (.bool false)) (W.putObj l (.loop (rec_ fn tmps ps assign body D .done (some (.goto t)))))
  | .panic _, _, _ => False
  | .outgrown, _, _ => False

/-- ONE ROUND: what a call of yield comes to. -/
theorem yieldAt_body {P : Program} {l : Nat} {fn : FuncId} {tmps : Array Value} {ps : Array Tmp} {assign body : Code} {D : Nat} {args : Array Value} {W : World} {R : Ending → World → Prop}
    (hl : W.heap[l]? = some (.loop (rec_ fn tmps ps assign body D .ready none))) (hs : args.size = ps.size)
    (h : assign.wpIn (Fence.wide.inRound l) 0 P (Exit.then (fun a₁ W₁ => W₁.heap[l]? = some (.loop (rec_ fn tmps ps assign body D .ready none)) ∧
        body.wpIn (Fence.wide.inRound l) 0 P (roundOut l fn tmps ps assign body D R) a₁ (W₁.putObj l (.loop (rec_ fn tmps ps assign body D .busy none)))) (fun _ _ _ => False))
      { tmps := (ps.zip args).foldl (fun t (p, v) => t.setIfInBounds p v) tmps, defers := [] } W) :
    YieldAt Fence.wide 0 P l args W R := by
  have hy := run_yield (P := P) (args := args) hl hs
  refine ⟨fn, _, assign, body, hy, roundIn_of_wpIn trivial (wpIn_mono h ?_)⟩
  rintro e a₁ W₁ hp
  cases e with
  | normal =>
    obtain ⟨hl₁, hb⟩ := hp
    refine ⟨_, run_beginRound hl₁ rfl, wpIn_mono hb ?_⟩
    rintro e a₂ W₂ hp
    cases e with
    | normal => exact ⟨_, _, run_endRound (P := P) none hp.1, hp.2⟩
    | ret => exact ⟨_, _, run_endRound (P := P) (some .ret) hp.1, hp.2⟩
    | exit id => exact ⟨_, _, run_endRound (P := P) (some (.exit id)) hp.1, hp.2⟩
    | goto t => exact ⟨_, _, run_endRound (P := P) (some (.goto t)) hp.1, hp.2⟩
    | panic c => exact hp.elim
    | outgrown => exact hp.elim
  | ret => exact hp.elim
  | exit id => exact hp.elim
  | goto t => exact hp.elim
  | panic c => exact hp.elim
  | outgrown => exact hp.elim

theorem YieldAt.mono_ {P : Program} {l : Nat} {args : Array Value} {W : World} {R R' : Ending → World → Prop} (h : YieldAt Fence.wide 0 P l args W R) (hr : ∀ e w', R e w' → R' e w') : YieldAt Fence.wide 0 P l args W R' := by
  obtain ⟨fn, tmps, assign, body, hy, hR⟩ := h
  exact ⟨fn, tmps, assign, body, hy, hR.mono hr⟩

end Go.Mine
