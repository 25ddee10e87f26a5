/-
  A region that draws, beside properties J t of worlds that each operation keeps but those of zs t: an operation that yields the same in each world that J t describes, and changes nothing, is taken first; the rest is gone through order by order. Nothing here names a program.
-/
import Derived.Test.YtheihohojmcbiaaTail
namespace Go.Mine
open Go
section
variable {P : Program} {ops : Array Oper} {md : Region.Mode} {Q : Exit → Act → World → Prop} {I : World → Prop}

/-- It yields v in each world that I describes, and changes nothing; or it is shut by its guard. -/
def Sure (P : Program) (ops : Array Oper) (I : World → Prop) (o : Oper) (v : Value) (a : Act) : Prop :=
  (Region.wanted o (yielded ops a.tmps) = true ∧ ∀ w, I w → (execOp a.eval o).run P w = .ok (.value v) w) ∨ (Region.wanted o (yielded ops a.tmps) = false ∧ v = undef)

theorem Sure.like {o : Oper} {v : Value} {a b : Act} (h : Sure P ops I o v a) (he : execOp b.eval o = execOp a.eval o) (hw : Region.wanted o (yielded ops b.tmps) = Region.wanted o (yielded ops a.tmps)) : Sure P ops I o v b := by
  unfold Sure at *; rw [he, hw]; exact h

theorem Sure.runs {i : Nat} {o : Oper} {v : Value} {a : Act} (hi : ops[i]? = some o) (h : Sure P ops I o v a) {K : Act → World → Prop} {w : World} (hI : I w) (hK : K (a.put o.dst v) w) : wpOp P ops Q i K a w := by
  unfold wpOp
  rw [hi]
  rcases h with ⟨hw, hv⟩ | ⟨hw, rfl⟩
  · show if _ then _ else _
    rw [if_pos hw]
    left
    unfold Oper.wp
    rw [hv w hI]
    exact hK
  · show if _ then _ else _
    rw [if_neg (by simp [hw])]
    exact hK

/-- What another operation does, it does as well ahead of it. -/
theorem Sure.past {j : Nat} {oi oj : Oper} {v : Value} (hj : ops[j]? = some oj) (hap : oi.apart ops oj = true) (hsi : ∀ cs b, oi.op ≠ .select cs b) (hsj : ∀ cs b, oj.op ≠ .select cs b)
    (hQ : ∀ c a w, Q (.panic c) (a.put oi.dst v) w → Q (.panic c) a w) {K : Act → World → Prop} {a : Act} {w : World} (h : Sure P ops I oi v a) (hh : wpOp P ops Q j K (a.put oi.dst v) w) :
    wpOp P ops Q j (fun b W => Sure P ops I oi v b ∧ K (b.put oi.dst v) W) a w := by
  obtain ⟨p1, p2, p3⟩ := Oper.apart_spec hap
  have after : ∀ b, Sure P ops I oi v b → ∀ u, Sure P ops I oi v (b.put oj.dst u) := fun b hb u => hb.like (execOp_put oi hsi b oj.dst u p3) (wanted_put oi b oj.dst u p3)
  have comm : ∀ (b : Act) u, (b.put oi.dst v).put oj.dst u = (b.put oj.dst u).put oi.dst v := fun b u => (Act.put_comm b v u p2)
  unfold wpOp at *
  rw [hj] at hh ⊢
  have hh' : if Region.wanted oj (yielded ops (a.put oi.dst v).tmps) then oj.wp P (a.put oi.dst v) w K Q ∨ (oj.asks P (a.put oi.dst v) w ∧ LetsOut Q) else K ((a.put oi.dst v).put oj.dst undef) w := hh
  rw [wanted_put oj a oi.dst v p1] at hh'
  show if Region.wanted oj (yielded ops a.tmps) then oj.wp P a w _ Q ∨ (oj.asks P a w ∧ LetsOut Q) else _
  by_cases hw : Region.wanted oj (yielded ops a.tmps) = true
  · rw [if_pos hw] at hh' ⊢
    rcases hh' with hh' | ⟨hk, hl⟩
    · left
      unfold Oper.wp at *
      rw [execOp_put oj hsj a oi.dst v p1] at hh'
      cases hr : (execOp a.eval oj).run P w with
      | ok n W =>
        rw [hr] at hh'
        cases n with
        | value u => exact ⟨after a h u, by rw [← comm]; exact hh'⟩
        | skip => exact ⟨after a h undef, by rw [← comm]; exact hh'⟩
        | defer d =>
          refine ⟨after _ (h.like (b := { a with defers := d :: a.defers }) rfl rfl) undef, ?_⟩
          have := comm { a with defers := d :: a.defers } undef
          rw [← this, ← Act.put_defers]
          exact hh'
        | enter f args =>
          refine Calls.mono hh' fun e W' he => ?_
          cases e with
          | returned u => exact ⟨after a h u, by rw [← comm]; exact he⟩
          | panicked c => exact hQ _ _ _ he
          | outgrown => exact he
        | row r args => exact Rows.mono hh' fun u W' he => ⟨after a h u, by rw [← comm]; exact he⟩
        | _ => exact hh'
      | halt x W =>
        rw [hr] at hh'
        cases x with
        | panic u => exact hQ _ _ _ hh'
        | _ => exact hh'
    · right
      unfold Oper.asks at *
      rw [execOp_put oj hsj a oi.dst v p1] at hk
      exact ⟨hk, hl⟩
  · rw [if_neg hw] at hh' ⊢
    exact ⟨after a h undef, by rw [← comm]; exact hh'⟩

/-- Each order; each step keeps each J t, but those of zs t. -/
def wpAnyK (P : Program) (md : Region.Mode) (ops : Array Oper) (J : Nat → World → Prop) (zs : Nat → List Nat) (Q : Exit → Act → World → Prop) : Nat → Array Bool → Act → World → Prop
  | 0, listed, a, w => Region.ready md ops listed = [] ∧ Q .normal a w
  | f + 1, listed, a, w => (Region.ready md ops listed = [] → Q .normal a w) ∧ ∀ i ∈ Region.ready md ops listed, wpOp P ops Q i (fun b W => (∀ t, (zs t).contains i = false → J t w → J t W) ∧ wpAnyK P md ops J zs Q f (listed.setIfInBounds i true) b W) a w
variable {J : Nat → World → Prop} {zs : Nat → List Nat}

theorem wpAny_of_K : ∀ (f : Nat) (listed : Array Bool) (a : Act) (w : World), wpAnyK P md ops J zs Q f listed a w → wpAny P md ops Q f listed a w
  | 0, _, _, _, h => h
  | f + 1, listed, _, _, h => ⟨h.1, fun i hi => wpOp_mono (fun _ _ hk => wpAny_of_K f _ _ _ hk.2) (h.2 i hi)⟩

/-- Each of ns waits for i. -/
def waitsB (md : Region.Mode) (ops : Array Oper) (ns : List Nat) (i : Nat) : Bool := ns.all fun j => match ops[j]? with
  | none => true
  | some oj => oj.after.any fun e => Region.binds md e && e.on == i
theorem waitsB_spec {ns : List Nat} {i j : Nat} {oj : Oper} (h : waitsB md ops ns i = true) (hj : ops[j]? = some oj) (hz : ns.contains j = true) : ∃ e ∈ oj.after, Region.binds md e = true ∧ e.on = i := by
  have h1 := List.all_eq_true.1 h j (by simpa using hz)
  rw [hj] at h1
  obtain ⟨e, he, h2⟩ := Array.any_eq_true'.1 h1
  simp only [Bool.and_eq_true, beq_iff_eq] at h2
  exact ⟨e, he, h2⟩

theorem wpAnyK_first {i t : Nat} {oi : Oper} {v : Value} (hi : ops[i]? = some oi) (hsel : ∀ (j : Nat) (o : Oper) cs b, ops[j]? = some o → o.op ≠ .select cs b) (hz : waitsB md ops (zs t) i = true)
    (hQ : ∀ c a w, Q (.panic c) (a.put oi.dst v) w → Q (.panic c) a w) :
    ∀ (f : Nat) (listed : Array Bool) (a : Act) (w : World),
      (∀ j oj, ops[j]? = some oj → j ≠ i → listed.getD j true = false → (∀ e ∈ oj.after, Region.binds md e = true → e.on ≠ i) → oi.apart ops oj = true) →
      i ∈ Region.ready md ops listed → Sure P ops (J t) oi v a → J t w →
      wpAnyK P md ops J zs Q f (listed.setIfInBounds i true) (a.put oi.dst v) w → wpAnyK P md ops J zs Q (f + 1) listed a w
  | 0, listed, a, w, _, hr, hy, hI, H => by
    refine ⟨fun h => (by rw [h] at hr; cases hr), fun j hj => ?_⟩
    by_cases hji : j = i
    · subst hji; exact hy.runs hi hI ⟨fun _ _ h => h, H⟩
    · have := ready_mono hj hji
      rw [H.1] at this
      cases this
  | f + 1, listed, a, w, hfree, hr, hy, hI, H => by
    refine ⟨fun h => (by rw [h] at hr; cases hr), fun j hj => ?_⟩
    by_cases hji : j = i
    · subst hji; exact hy.runs hi hI ⟨fun _ _ h => h, H⟩
    · have g1 := H.2 j (ready_mono hj hji)
      obtain ⟨hjun, oj, hoj, hall⟩ := mem_ready.1 hj
      have hnot : ∀ e ∈ oj.after, Region.binds md e = true → e.on ≠ i := fun e he hb heq => by
        have t1 := hall e he hb
        have t0 := (mem_ready.1 hr).1
        rw [heq] at t1
        rcases Nat.lt_or_ge i listed.size with h' | h'
        · simp [h'] at t0 t1; rw [t0] at t1; cases t1
        · simp [Array.getElem?_eq_none h'] at t1
      have hnz : (zs t).contains j = false := by
        rw [Bool.eq_false_iff]
        intro hc
        obtain ⟨e, he, hb, ho⟩ := waitsB_spec hz hoj hc
        exact hnot e he hb ho
      have g2 := Sure.past hoj (hfree j oj hoj hji hjun hnot) (fun cs b => hsel i oi cs b hi) (fun cs b => hsel j oj cs b hoj) hQ hy g1
      refine wpOp_mono (fun b W ⟨s1, s2, s3⟩ => ⟨s2, wpAnyK_first hi hsel hz hQ f (listed.setIfInBounds j true) b W (fun k ok hk hki hun hno => hfree k ok hk hki ?_ hno) (ready_mono hr (Ne.symm hji)) s1 (s2 t hnz hI) ?_⟩) g2
      · by_cases hjk : j = k
        · subst hjk; exact hjun
        · rw [getD_set_ne true hjk] at hun; exact hun
      · rw [Array.setIfInBounds_comm _ _ hji]
        exact s3

/-- What a sure operation comes to. -/
def sureUpon (v : Value) (W : World) : Result Next → Prop
  | .ok (.value u) w' => u = v ∧ w' = W
  | _ => False
theorem sure_of_upon {v : Value} {W : World} {r : Result Next} (h : sureUpon v W r) : r = .ok (.value v) W := by
  cases r with
  | ok n w' =>
    cases n with
    | value u => obtain ⟨rfl, rfl⟩ := h; rfl
    | _ => exact h.elim
  | halt x w' => exact h.elim
theorem wpAnyK_sure (t : Nat) {i : Nat} {oi : Oper} (v : Value) {f : Nat} {listed : Array Bool} {a : Act} {w : World} (hi : ops[i]? = some oi)
    (hs : Region.noSelect ops = true) (hf : Region.free md ops listed i = true) (hr : (Region.ready md ops listed).contains i = true) (hz : waitsB md ops (zs t) i = true)
    (hQ : ∀ c a w, Q (.panic c) (a.put oi.dst v) w → Q (.panic c) a w) (hI : J t w) (hw : Region.wanted oi (yielded ops a.tmps) = true) (hy : ∀ w, J t w → sureUpon v w ((execOp a.eval oi).run P w))
    (h : wpAnyK P md ops J zs Q f (listed.setIfInBounds i true) (a.put oi.dst v) w) : wpAnyK P md ops J zs Q (f + 1) listed a w :=
  wpAnyK_first hi (Region.noSelect_spec hs) hz hQ f listed a w (Region.free_spec hi hf) (by simpa using hr) (.inl ⟨hw, fun w hI => sure_of_upon (hy w hI)⟩) hI h

/-- What may come next. -/
def AllK (P : Program) (md : Region.Mode) (ops : Array Oper) (J : Nat → World → Prop) (zs : Nat → List Nat) (Q : Exit → Act → World → Prop) (f : Nat) (listed : Array Bool) (a : Act) (w : World) (rs : List Nat) : Prop :=
  ∀ i ∈ rs, wpOp P ops Q i (fun b W => (∀ t, (zs t).contains i = false → J t w → J t W) ∧ wpAnyK P md ops J zs Q f (listed.setIfInBounds i true) b W) a w
theorem AllK.nil {f : Nat} {listed : Array Bool} {a : Act} {w : World} : AllK P md ops J zs Q f listed a w [] := fun _ h => by cases h
theorem AllK.cons {f : Nat} {listed : Array Bool} {a : Act} {w : World} {i : Nat} {o : Oper} {rs : List Nat} (ho : ops[i]? = some o)
    (h : ∀ K' : Act → World → Prop, (∀ b W, (∀ t, (zs t).contains i = false → J t w → J t W) → wpAnyK P md ops J zs Q f (listed.setIfInBounds i true) b W → K' b W) → if Region.wanted o (yielded ops a.tmps) = true then Oper.wp P o a w K' Q else K' (a.put o.dst undef) w)
    (hs : AllK P md ops J zs Q f listed a w rs) : AllK P md ops J zs Q f listed a w (i :: rs) := fun j hj => by
  rcases List.mem_cons.1 hj with rfl | hj
  · exact wpOp_step ho (fun K' hK' => h K' (fun b W h1 h2 => hK' b W ⟨h1, h2⟩))
  · exact hs j hj
theorem wpAnyK_ready {rs : List Nat} {f : Nat} {listed : Array Bool} {a : Act} {w : World} (hr : Region.ready md ops listed = rs) (hne : rs ≠ []) (h : AllK P md ops J zs Q f listed a w rs) : wpAnyK P md ops J zs Q (f + 1) listed a w :=
  ⟨fun h0 => absurd (hr ▸ h0) hne, hr ▸ h⟩
theorem wpAnyK_done {listed : Array Bool} {a : Act} {w : World} (hr : Region.ready md ops listed = []) (h : Q .normal a w) : ∀ f, wpAnyK P md ops J zs Q f listed a w
  | 0 => ⟨hr, h⟩
  | _ + 1 => ⟨fun _ => h, by rw [hr]; simp⟩
end
end Go.Mine
