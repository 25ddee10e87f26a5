/-
  A region that draws, whose operations (but for a forced tail) yield the same in every world that a property I describes, and keep I: one walk of the lexical order. Nothing here names a program.
-/
import Derived.Test.YtheihohojmcbiaaTail
namespace Go.Mine
open Go
section
variable {P : Program} {ops : Array Oper} {md : Region.Mode} {I : World → Prop}

/-- What an operation that runs comes to: v, in a world that I describes. -/
def Oper.invUpon (P : Program) (I : World → Prop) (v : Value) : Result Next → Prop
  | .ok (.value u) w' => u = v ∧ I w'
  | .ok .skip w' => undef = v ∧ I w'
  | .ok (.enter f args) w' => Calls P f args w' (fun e w'' => e = .returned v ∧ I w'')
  | _ => False

def DoesI (P : Program) (ops : Array Oper) (I : World → Prop) (o : Oper) (a : Act) (v : Value) : Prop :=
  (Region.wanted o (yielded ops a.tmps) = true ∧ ∀ W, I W → Oper.invUpon P I v ((execOp a.eval o).run P W)) ∨
  (Region.wanted o (yielded ops a.tmps) = false ∧ v = undef)

theorem DoesI.of_same {o : Oper} {a a' : Act} {v : Value} (h : DoesI P ops I o a v) (he : execOp a'.eval o = execOp a.eval o)
    (hw : Region.wanted o (yielded ops a'.tmps) = Region.wanted o (yielded ops a.tmps)) : DoesI P ops I o a' v := by
  unfold DoesI at *
  rw [he, hw]
  exact h

def stI (P : Program) (ops : Array Oper) (I : World → Prop) (i : Nat) (K : Act → Prop) (a : Act) : Prop :=
  match ops[i]? with
  | none => K a
  | some o => ∃ v, DoesI P ops I o a v ∧ K (a.put o.dst v)

theorem stI_mono {i : Nat} {K K' : Act → Prop} {a : Act} (h : ∀ a, K a → K' a) (hh : stI P ops I i K a) : stI P ops I i K' a := by
  unfold stI at *
  split
  · rename_i ho; simp only [ho] at hh; exact h _ hh
  · rename_i o ho
    simp only [ho] at hh
    obtain ⟨v, h1, h3⟩ := hh
    exact ⟨v, h1, h _ h3⟩

theorem wpOp_of_stI {i : Nat} {a : Act} {K : Act → Prop} {K' : Act → World → Prop} {Q' : Exit → Act → World → Prop} {W : World} (hI : I W)
    (h : ∀ a, K a → ∀ W, I W → K' a W) (hh : stI P ops I i K a) : wpOp P ops Q' i K' a W := by
  unfold stI at hh
  unfold wpOp
  split
  · rename_i ho; simp only [ho] at hh; exact h _ hh _ hI
  · rename_i o ho
    simp only [ho] at hh
    obtain ⟨v, hd, hK⟩ := hh
    rcases hd with ⟨hw, hr⟩ | ⟨hw, rfl⟩
    · rw [if_pos hw]
      left
      have h1 := hr W hI
      unfold Oper.wp
      generalize (execOp a.eval o).run P W = r at *
      cases r with
      | ok n w' =>
        cases n <;> simp only [Oper.invUpon] at h1 <;> simp only [Oper.upon]
        case enter f args => exact h1.mono fun e w'' ⟨he, hw⟩ => by subst he; exact h _ hK _ hw
        all_goals (obtain ⟨rfl, h2⟩ := h1; exact h _ hK _ h2)
      | halt x w' => simp only [Oper.invUpon] at h1
    · rw [if_neg (by simp [hw])]
      exact h _ hK _ hI

theorem stI_put {j : Nat} {oi oj : Oper} {v : Value} (hj : ops[j]? = some oj) (hap : oi.apart ops oj = true)
    (hsi : ∀ cs b, oi.op ≠ .select cs b) (hsj : ∀ cs b, oj.op ≠ .select cs b) {K : Act → Prop} {a : Act}
    (hy : DoesI P ops I oi a v) (h : stI P ops I j K (a.put oi.dst v)) :
    stI P ops I j (fun a' => DoesI P ops I oi a' v ∧ K (a'.put oi.dst v)) a := by
  obtain ⟨h1, h2, h3⟩ := Oper.apart_spec hap
  unfold stI at *
  simp only [hj] at *
  obtain ⟨v', hd, hK⟩ := h
  refine ⟨v', hd.of_same (execOp_put oj hsj a oi.dst v h1).symm (wanted_put oj a oi.dst v h1).symm, hy.of_same (execOp_put oi hsi a oj.dst v' h3) (wanted_put oi a oj.dst v' h3), ?_⟩
  rw [← Act.put_comm a v v' h2]
  exact hK

/-- The head of a region: n operations, then L. -/
def wpAnyLI (P : Program) (md : Region.Mode) (ops : Array Oper) (I : World → Prop) (n : Nat) (L : Array Bool → Act → Prop) : Nat → Array Bool → Act → Prop
  | 0, listed, a => L listed a
  | f + 1, listed, a =>
    Region.ready md ops listed ≠ [] ∧ ∀ i ∈ Region.ready md ops listed, i < n ∧ stI P ops I i (wpAnyLI P md ops I n L f (listed.setIfInBounds i true)) a

theorem wpAny_of_headI {n g : Nat} {L : Array Bool → Act → Prop} {Q' : Exit → Act → World → Prop} (hL : ∀ listed a, L listed a → ∀ W, I W → wpAny P md ops Q' g listed a W) :
    ∀ (f : Nat) (listed : Array Bool) (a : Act), wpAnyLI P md ops I n L f listed a → ∀ W, I W → wpAny P md ops Q' (f + g) listed a W
  | 0, listed, a, h, W, hI => by rw [Nat.zero_add]; exact hL _ _ h W hI
  | f + 1, listed, a, h, W, hI => by
    rw [show f + 1 + g = (f + g) + 1 by omega]
    exact ⟨fun h0 => absurd h0 h.1, fun i hi => wpOp_of_stI hI (fun a' h' W' hI' => wpAny_of_headI hL f _ a' h' W' hI') (h.2 i hi).2⟩

theorem wpAnyLI_first {n i : Nat} {oi : Oper} {v : Value} {L : Array Bool → Act → Prop} (hi : ops[i]? = some oi) (hsel : ∀ (j : Nat) (o : Oper) cs b, ops[j]? = some o → o.op ≠ .select cs b)
    (htl : ∀ listed, HeadInv md ops n listed → ∀ i, i < n → listed.getD i true = false → ∀ j ∈ Region.ready md ops listed, j < n) (hin : i < n)
    (hdone : ∀ listed a, L listed a → ∀ j ∈ Region.ready md ops listed, n ≤ j) :
    ∀ (f : Nat) (listed : Array Bool) (a : Act), HeadInv md ops n listed →
      (∀ j oj, ops[j]? = some oj → j ≠ i → listed.getD j true = false → (∀ e ∈ oj.after, Region.binds md e = true → e.on ≠ i) → oi.apart ops oj = true) →
      i ∈ Region.ready md ops listed → DoesI P ops I oi a v →
      wpAnyLI P md ops I n L f (listed.setIfInBounds i true) (a.put oi.dst v) → wpAnyLI P md ops I n L (f + 1) listed a := by
  intro f
  have one : ∀ {K : Act → Prop} {a : Act}, DoesI P ops I oi a v → K (a.put oi.dst v) → stI P ops I i K a := fun hy H => by
    unfold stI; simp only [hi]; exact ⟨v, hy, H⟩
  induction f with
  | zero =>
    intro listed a inv _ hr hy H
    have hun := (mem_ready.1 hr).1
    refine ⟨fun h => (by rw [h] at hr; cases hr), fun j hj => ?_⟩
    have hjn : j < n := htl listed inv i hin hun j hj
    refine ⟨hjn, ?_⟩
    by_cases hji : j = i
    · subst hji; exact one hy H
    · have := hdone _ _ H j (ready_mono hj hji)
      omega
  | succ f ih =>
    intro listed a inv hfree hr hy H
    have hun := (mem_ready.1 hr).1
    refine ⟨fun h => (by rw [h] at hr; cases hr), fun j hj => ?_⟩
    have hjn : j < n := htl listed inv i hin hun j hj
    refine ⟨hjn, ?_⟩
    by_cases hji : j = i
    · subst hji; exact one hy H
    · have h1 := (H.2 j (ready_mono hj hji)).2
      obtain ⟨hjun, oj, hoj, hall⟩ := mem_ready.1 hj
      have hnot : ∀ e ∈ oj.after, Region.binds md e = true → e.on ≠ i := fun e he hb heq => by
        have h1 := hall e he hb
        rw [heq, getD_both hun] at h1
        cases h1
      have h2 := stI_put hoj (hfree j oj hoj hji hjun hnot) (fun cs b => hsel i oi cs b hi) (fun cs b => hsel j oj cs b hoj) hy h1
      have hfree' : ∀ k ok, ops[k]? = some ok → k ≠ i → (listed.setIfInBounds j true).getD k true = false →
          (∀ e ∈ ok.after, Region.binds md e = true → e.on ≠ i) → oi.apart ops ok = true := fun k ok hk hki hun hno => by
        refine hfree k ok hk hki ?_ hno
        by_cases hjk : j = k
        · subst hjk; exact hjun
        · rw [getD_set_ne true hjk] at hun; exact hun
      refine stI_mono (fun a' h3 => ih (listed.setIfInBounds j true) a' (inv.set hj hjn) hfree' (ready_mono hr (Ne.symm hji)) h3.1 ?_) h2
      rw [Array.setIfInBounds_comm _ _ hji]
      exact h3.2

/-- One walk of the lexical order. -/
def wpInv (P : Program) (ops : Array Oper) (I : World → Prop) (Q : Act → Prop) : List Oper → Act → Prop
  | [], a => Q a
  | o :: rest, a => ∃ v, DoesI P ops I o a v ∧ wpInv P ops I Q rest (a.put o.dst v)

theorem wpInv_nil {Q : Act → Prop} {a : Act} (h : Q a) : wpInv P ops I Q [] a := h
theorem wpInv_run {Q : Act → Prop} {a : Act} {o : Oper} {rest : List Oper} (v : Value) (hw : Region.wanted o (yielded ops a.tmps) = true) (h : ∀ W, I W → Oper.invUpon P I v ((execOp a.eval o).run P W))
    (hK : wpInv P ops I Q rest (a.put o.dst v)) : wpInv P ops I Q (o :: rest) a := ⟨v, .inl ⟨hw, h⟩, hK⟩
theorem wpInv_skip {Q : Act → Prop} {a : Act} {o : Oper} {rest : List Oper} (hw : Region.wanted o (yielded ops a.tmps) = false) (hK : wpInv P ops I Q rest (a.put o.dst undef)) : wpInv P ops I Q (o :: rest) a :=
  ⟨undef, .inr ⟨hw, rfl⟩, hK⟩

theorem wpAnyLI_lex {n g : Nat} {Lq : Act → Prop} (hsel : Region.noSelect ops = true)
    (htl : ∀ listed, HeadInv md ops n listed → ∀ i, i < n → listed.getD i true = false → ∀ j ∈ Region.ready md ops listed, j < n) :
    ∀ (l : List Oper) (k : Nat) (listed : Array Bool) (a : Act), (∀ j, j < l.length → l[j]? = ops[k + j]?) → k + l.length = n → HeadInv md ops n listed →
    Region.lexHead md ops g l.length k listed = true → wpInv P ops I Lq l a →
    wpAnyLI P md ops I n (fun listed' a' => Region.seqB md ops g n listed' = true ∧ Lq a') l.length listed a
  | [], k, listed, a, _, hk, _, hB, h => by
    have : k = n := by simpa using hk
    subst this
    exact ⟨by simpa [Region.lexHead] using hB, h⟩
  | o :: l, k, listed, a, hl, hk, inv, hB, h => by
    have h0 : ops[k]? = some o := by simpa using (hl 0 (by simp)).symm
    simp only [List.length_cons, Region.lexHead, Bool.and_eq_true] at hB
    obtain ⟨⟨hr, hf⟩, hB'⟩ := hB
    have hkn : k < n := by simp only [List.length_cons] at hk; omega
    have hr' : k ∈ Region.ready md ops listed := by simpa using hr
    obtain ⟨v, hy, hK⟩ := h
    exact wpAnyLI_first h0 (Region.noSelect_spec hsel) htl hkn (fun listed' a' hL => seqB_ready hL.1) l.length listed a inv (Region.free_spec h0 hf) hr' hy
      (wpAnyLI_lex hsel htl l (k + 1) _ _ (fun j hj => by have := hl (j + 1) (by simp; omega); simpa [Nat.add_assoc, Nat.add_comm 1 j] using this) (by simp only [List.length_cons] at hk; omega) (inv.set hr' hkn) hB' hK)

/-- The head in any order, the tail forced. -/
theorem wpAny_inv_tail {l : List Oper} {Q : Exit → Act → World → Prop} {a : Act} {w : World} (I : World → Prop) (n : Nat) (hI : I w) (hB : Region.lexTailB .any l.toArray n = true)
    (h : wpInv P l.toArray I (fun a' => ∀ W, I W → wpList P l.toArray Q (l.drop n) a' W) (l.take n) a) : wpAny P .any l.toArray Q l.toArray.size (Array.replicate l.toArray.size false) a w := by
  simp only [Region.lexTailB, Bool.and_eq_true, decide_eq_true_eq] at hB
  obtain ⟨⟨⟨⟨hsel, hn⟩, hs⟩, hc⟩, hlex⟩ := hB
  have hn' : n < l.length := by simpa using hn
  have htl : (l.take n).length = n := by simp; omega
  have hdl : (l.drop n).length = l.toArray.size - n := by simp
  have inv0 : HeadInv .any l.toArray n (Array.replicate l.toArray.size false) :=
    ⟨by simp, fun j oj _ hl => (by rw [getD_replicate_false] at hl; cases hl), fun t _ ht => getD_in (by simpa using ht) (getD_replicate_false _ _)⟩
  have H := wpAnyLI_lex (md := .any) (g := l.toArray.size - n) hsel (fun listed inv i hin hun j hj => by
      rcases Nat.lt_or_ge j n with h | h
      · exact h
      · exact absurd hj (tail_waits hs hc hn inv _ i rfl hin hun j h)) (l.take n) 0 _ a (fun j hj => by
    have hj' : j < n := by rw [htl] at hj; exact hj
    simp [hj']) (by simpa using htl) inv0 (by rw [htl]; exact hlex) h
  have := wpAny_of_headI (Q' := Q) (g := l.toArray.size - n) (fun listed a' hL W hW => by
    have := wpAny_of_seq (md := .any) (Q' := Q) (l.drop n) n listed a' W (fun j => by simp [List.getElem?_drop]) (by rw [hdl]; exact hL.1) (hL.2 W hW)
    rwa [hdl] at this) _ _ _ H w hI
  rw [htl, show n + (l.toArray.size - n) = l.toArray.size by omega] at this
  exact this

theorem lexHead_of_lexFrom : ∀ (f k : Nat) (listed : Array Bool), Region.lexFrom md ops f k listed = true → Region.lexHead md ops 0 f k listed = true
  | 0, k, listed, h => h
  | f + 1, k, listed, h => by
    simp only [Region.lexFrom, Region.lexHead, Bool.and_eq_true] at h ⊢
    exact ⟨h.1, lexHead_of_lexFrom f (k + 1) _ h.2⟩

/-- All in any order. -/
theorem wpAny_inv {l : List Oper} {Q : Exit → Act → World → Prop} {a : Act} {w : World} (I : World → Prop) (hI : I w) (hB : Region.lexB .any l.toArray = true)
    (h : wpInv P l.toArray I (fun a' => ∀ W, I W → Q .normal a' W) l a) : wpAny P .any l.toArray Q l.toArray.size (Array.replicate l.toArray.size false) a w := by
  simp only [Region.lexB, Bool.and_eq_true] at hB
  have inv0 : HeadInv .any l.toArray l.length (Array.replicate l.toArray.size false) :=
    ⟨by simp, fun j oj _ hl => (by rw [getD_replicate_false] at hl; cases hl), fun t _ ht => getD_in (by simpa using ht) (getD_replicate_false _ _)⟩
  have H := wpAnyLI_lex (md := .any) (g := 0) (n := l.length) hB.1 (fun listed inv i hin hun j hj => by
      obtain ⟨_, o, ho, _⟩ := mem_ready.1 hj
      simpa using (Array.getElem?_eq_some_iff.1 ho).1) l 0 _ a (fun j hj => by simp) (by simp) inv0 (lexHead_of_lexFrom _ _ _ (by simpa using hB.2)) h
  have := wpAny_of_headI (Q' := Q) (g := 0) (fun listed a' hL W hW => ⟨by simpa [Region.seqB] using hL.1, hL.2 W hW⟩) _ _ _ H w hI
  simpa using this

theorem wp_region_inv {id : Nat} {l : List Oper} {Q : Exit → Act → World → Prop} {a : Act} {w : World} (I : World → Prop) (hm : P.follows .mixedOrders = true) (hB : Region.lexB .any l.toArray = true) (hI : I w.drew)
    (h : wpInv P l.toArray I (fun a' => ∀ W, I W → Q .normal a' W) l a) : (Code.region id l.toArray true).wp P Q a w := wp_region_any hm (wpAny_inv I hI hB h)
theorem wp_region_inv_tail {id : Nat} {l : List Oper} {Q : Exit → Act → World → Prop} {a : Act} {w : World} (I : World → Prop) (n : Nat) (hm : P.follows .mixedOrders = true) (hB : Region.lexTailB .any l.toArray n = true) (hI : I w.drew)
    (h : wpInv P l.toArray I (fun a' => ∀ W, I W → wpList P l.toArray Q (l.drop n) a' W) (l.take n) a) : (Code.region id l.toArray true).wp P Q a w := wp_region_any hm (wpAny_inv_tail I n hI hB h)
theorem wpIn_region_inv {F : Fence} (hF : Open F) {id m : Nat} {l : List Oper} {Q : Exit → Act → World → Prop} {a : Act} {w : World} (I : World → Prop) (hm : P.follows .mixedOrders = true) (hB : Region.lexB .any l.toArray = true)
    (hnd : l.toArray.all noDefer = true) (hQ : LetsOut Q → False) (hI : I w.drew) (h : wpInv P l.toArray I (fun a' => ∀ W, I W → Q .normal a' W) l a) : (Code.region id l.toArray true).wpIn F m P Q a w :=
  wpIn_region_of_any hF hm hnd hQ (wpAny_inv I hI hB h)
end
end Go.Mine
