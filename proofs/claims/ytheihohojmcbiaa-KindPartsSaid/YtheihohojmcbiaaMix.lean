/-
  A region that draws, whose operations compute, read, call quietly, or store to cells of their own: one walk of the lexical order. Nothing here names a program.
-/
import Derived.Test.YtheihohojmcbiaaTail
namespace Go.Mine
open Go
section
variable {P : Program} {ops : Array Oper} {md : Region.Mode} {w0 : World} {A : List Addr} {S : Nat → Option Addr}

/-- Worlds that stores to the cells of A make of w0. -/
inductive Near (A : List Addr) (w0 : World) : World → Prop
  | refl : Near A w0 w0
  | set {W : World} {p : Addr} {u : Value} : Near A w0 W → p ∈ A → Near A w0 (W.setCell p u)

theorem Near.size {W : World} (h : Near A w0 W) : W.heap.size = w0.heap.size := by
  induction h with
  | refl => rfl
  | set _ _ ih => rw [World.size_setCell]; exact ih

theorem Near.cell {W : World} (h : Near A w0 W) {q : Addr} (hq : ∀ p ∈ A, p ≠ q) : W.cell? q = w0.cell? q := by
  induction h with
  | refl => rfl
  | set _ hp ih => rw [World.cell?_setCell_other _ _ _ _ (hq _ hp)]; exact ih

theorem Near.frozen {W : World} (h : Near A w0 W) (q : Addr) : W.frozen? q = w0.frozen? q := by
  induction h with
  | refl => rfl
  | set _ _ ih => rw [World.frozen?_setCell]; exact ih

theorem setCell_comm (W : World) {p q : Addr} (h : p ≠ q) (u v : Value) : (W.setCell p u).setCell q v = (W.setCell q v).setCell p u := by
  unfold World.setCell
  congr 1
  apply Array.ext_getElem?
  intro k
  simp only [Array.getElem?_modify]
  by_cases hp : p.block = k <;> by_cases hq : q.block = k <;> simp only [hp, hq, if_true, if_false]
  cases hk : W.heap[k]? with
  | none => rfl
  | some o =>
    cases o <;> simp only [Option.map_some]
    rename_i c e f
    congr 2
    cases hps : p.spot <;> cases hqs : q.spot <;> simp
    exact Array.setIfInBounds_comm _ _ (fun ho => h (by cases p; cases q; simp_all))

/-- What an operation does to the world. -/
def app : Option (Addr × Value) → World → World
  | none, W => W
  | some (p, u), W => W.setCell p u

def Runs (P : Program) (o : Oper) (a : Act) (v : Value) (s : Option (Addr × Value)) (W : World) : Prop :=
  (execOp a.eval o).run P W = .ok (.value v) (app s W) ∨ ((execOp a.eval o).run P W = .ok .skip (app s W) ∧ v = undef) ∨
    (s = none ∧ ∃ f args, (execOp a.eval o).run P W = .ok (.enter f args) W ∧ Calls P f args W (fun e w'' => e = .returned v ∧ w'' = W))

/-- In each of these worlds it does just that. -/
def Does (P : Program) (ops : Array Oper) (A : List Addr) (w0 : World) (o : Oper) (a : Act) (v : Value) (s : Option (Addr × Value)) : Prop :=
  (Region.wanted o (yielded ops a.tmps) = true ∧ ∀ W, Near A w0 W → Runs P o a v s W) ∨
  (Region.wanted o (yielded ops a.tmps) = false ∧ v = undef ∧ s = none)

theorem Does.of_same {o : Oper} {a a' : Act} {v : Value} {s : Option (Addr × Value)} (h : Does P ops A w0 o a v s) (he : execOp a'.eval o = execOp a.eval o)
    (hw : Region.wanted o (yielded ops a'.tmps) = Region.wanted o (yielded ops a.tmps)) : Does P ops A w0 o a' v s := by
  unfold Does Runs at *
  rw [he, hw]
  exact h

def stM (P : Program) (ops : Array Oper) (A : List Addr) (S : Nat → Option Addr) (w0 : World) (i : Nat) (K : Act → World → Prop) (a : Act) (W : World) : Prop :=
  match ops[i]? with
  | none => K a W
  | some o => ∃ v s, Does P ops A w0 o a v s ∧ (∀ p u, s = some (p, u) → S i = some p) ∧ K (a.put o.dst v) (app s W)

theorem stM_mono {i : Nat} {K K' : Act → World → Prop} {a : Act} {W : World} (h : ∀ a W, K a W → K' a W) (hh : stM P ops A S w0 i K a W) : stM P ops A S w0 i K' a W := by
  unfold stM at *
  split
  · rename_i ho; simp only [ho] at hh; exact h _ _ hh
  · rename_i o ho
    simp only [ho] at hh
    obtain ⟨v, s, h1, h2, h3⟩ := hh
    exact ⟨v, s, h1, h2, h _ _ h3⟩

def wpAnyM (P : Program) (md : Region.Mode) (ops : Array Oper) (A : List Addr) (S : Nat → Option Addr) (w0 : World) (Q : Act → World → Prop) : Nat → Array Bool → Act → World → Prop
  | 0, listed, a, W => Region.ready md ops listed = [] ∧ Q a W
  | fuel + 1, listed, a, W =>
    (Region.ready md ops listed = [] → Q a W) ∧
    ∀ i ∈ Region.ready md ops listed, stM P ops A S w0 i (wpAnyM P md ops A S w0 Q fuel (listed.setIfInBounds i true)) a W

theorem Near.app {W : World} (h : Near A w0 W) {s : Option (Addr × Value)} (hs : ∀ p u, s = some (p, u) → p ∈ A) : Near A w0 (app s W) := by
  rcases s with _ | ⟨p, u⟩
  · exact h
  · exact h.set (hs p u rfl)

theorem wpOp_of_stM {i : Nat} {a : Act} {K : Act → World → Prop} {K' : Act → World → Prop} {Q' : Exit → Act → World → Prop} {W : World} (hN : Near A w0 W) (hS : ∀ i p, S i = some p → p ∈ A)
    (h : ∀ a W, Near A w0 W → K a W → K' a W) (hh : stM P ops A S w0 i K a W) : wpOp P ops Q' i K' a W := by
  unfold stM at hh
  unfold wpOp
  split
  · rename_i ho; simp only [ho] at hh; exact h _ _ hN hh
  · rename_i o ho
    simp only [ho] at hh
    obtain ⟨v, s, hd, hs, hK⟩ := hh
    have hN' := hN.app (s := s) (fun p u e => hS i p (hs p u e))
    rcases hd with ⟨hw, hr⟩ | ⟨hw, rfl, rfl⟩
    · rw [if_pos hw]
      left
      unfold Oper.wp
      rcases hr W hN with h1 | ⟨h1, rfl⟩ | ⟨rfl, f, args, h1, hc⟩
      · rw [h1]; exact h _ _ hN' hK
      · rw [h1]; exact h _ _ hN' hK
      · rw [h1]; exact hc.mono fun e w'' ⟨he, hw⟩ => by subst he; subst hw; exact h _ _ hN hK
    · rw [if_neg (by simp [hw])]
      exact h _ _ hN hK

theorem wpAny_of_M {Q : Act → World → Prop} {Q' : Exit → Act → World → Prop} (hS : ∀ i p, S i = some p → p ∈ A) (hQ : ∀ a W, Q a W → Q' .normal a W) : ∀ (fuel : Nat) (listed : Array Bool) (a : Act) (W : World), Near A w0 W →
    wpAnyM P md ops A S w0 Q fuel listed a W → wpAny P md ops Q' fuel listed a W
  | 0, _, _, _, _, h => ⟨h.1, hQ _ _ h.2⟩
  | fuel + 1, _, _, _, hN, h => ⟨fun h0 => hQ _ _ (h.1 h0), fun i hi => wpOp_of_stM hN hS (fun a' W' hN' => wpAny_of_M hS hQ fuel _ a' W' hN') (h.2 i hi)⟩

theorem app_comm {s s' : Option (Addr × Value)} (W : World) (h : ∀ p u q y, s = some (p, u) → s' = some (q, y) → p ≠ q) : app s' (app s W) = app s (app s' W) := by
  rcases s with _ | ⟨p, u⟩ <;> rcases s' with _ | ⟨q, y⟩ <;> try rfl
  exact setCell_comm W (h p u q y rfl rfl) u y

theorem stM_put {i j : Nat} {oi oj : Oper} {v : Value} {s : Option (Addr × Value)} (hij : i ≠ j) (hj : ops[j]? = some oj) (hap : oi.apart ops oj = true)
    (hsi : ∀ cs b, oi.op ≠ .select cs b) (hsj : ∀ cs b, oj.op ≠ .select cs b) (hinj : ∀ i j p, S i = some p → S j = some p → i = j) (hs : ∀ p u, s = some (p, u) → S i = some p) {K : Act → World → Prop} {a : Act} {W : World}
    (hy : Does P ops A w0 oi a v s) (h : stM P ops A S w0 j K (a.put oi.dst v) (app s W)) :
    stM P ops A S w0 j (fun a' W' => Does P ops A w0 oi a' v s ∧ K (a'.put oi.dst v) (app s W')) a W := by
  obtain ⟨h1, h2, h3⟩ := Oper.apart_spec hap
  unfold stM at *
  simp only [hj] at *
  obtain ⟨v', s', hd, hs', hK⟩ := h
  refine ⟨v', s', hd.of_same (execOp_put oj hsj a oi.dst v h1).symm (wanted_put oj a oi.dst v h1).symm, hs', hy.of_same (execOp_put oi hsi a oj.dst v' h3) (wanted_put oi a oj.dst v' h3), ?_⟩
  rw [← Act.put_comm a v v' h2, ← app_comm W (s := s) (s' := s') (fun p u q y e e' hpq => hij (hinj i j p (hs p u e) (by rw [hpq]; exact hs' q y e')))]
  exact hK

theorem wpAnyM_first {Q : Act → World → Prop} {i : Nat} {oi : Oper} {v : Value} {s : Option (Addr × Value)} (hi : ops[i]? = some oi) (hsel : ∀ (j : Nat) (o : Oper) cs b, ops[j]? = some o → o.op ≠ .select cs b)
    (hinj : ∀ i j p, S i = some p → S j = some p → i = j) (hs : ∀ p u, s = some (p, u) → S i = some p) :
    ∀ (fuel : Nat) (listed : Array Bool) (a : Act) (W : World),
      (∀ j oj, ops[j]? = some oj → j ≠ i → listed.getD j true = false → (∀ e ∈ oj.after, Region.binds md e = true → e.on ≠ i) → oi.apart ops oj = true) →
      i ∈ Region.ready md ops listed → Does P ops A w0 oi a v s →
      wpAnyM P md ops A S w0 Q fuel (listed.setIfInBounds i true) (a.put oi.dst v) (app s W) → wpAnyM P md ops A S w0 Q (fuel + 1) listed a W := by
  intro fuel
  have one : ∀ {K : Act → World → Prop} {a : Act} {W : World}, Does P ops A w0 oi a v s → K (a.put oi.dst v) (app s W) → stM P ops A S w0 i K a W := fun hy H => by
    unfold stM; simp only [hi]; exact ⟨v, s, hy, hs, H⟩
  induction fuel with
  | zero =>
    intro listed a W _ hr hy H
    refine ⟨fun h => (by rw [h] at hr; cases hr), fun j hj => ?_⟩
    by_cases hji : j = i
    · subst hji; exact one hy H
    · have := ready_mono hj hji
      rw [H.1] at this
      cases this
  | succ fuel ih =>
    intro listed a W hfree hr hy H
    refine ⟨fun h => (by rw [h] at hr; cases hr), fun j hj => ?_⟩
    by_cases hji : j = i
    · subst hji; exact one hy H
    · have h1 := H.2 j (ready_mono hj hji)
      obtain ⟨hjun, oj, hoj, hall⟩ := mem_ready.1 hj
      have hnot : ∀ e ∈ oj.after, Region.binds md e = true → e.on ≠ i := fun e he hb heq => by
        have h1 := hall e he hb
        have h0 := (mem_ready.1 hr).1
        rw [heq] at h1
        rcases Nat.lt_or_ge i listed.size with h' | h'
        · simp [h'] at h0 h1; rw [h0] at h1; cases h1
        · simp [Array.getElem?_eq_none h'] at h1
      have h2 := stM_put (Ne.symm hji) hoj (hfree j oj hoj hji hjun hnot) (fun cs b => hsel i oi cs b hi) (fun cs b => hsel j oj cs b hoj) hinj hs hy h1
      have hfree' : ∀ k ok, ops[k]? = some ok → k ≠ i → (listed.setIfInBounds j true).getD k true = false →
          (∀ e ∈ ok.after, Region.binds md e = true → e.on ≠ i) → oi.apart ops ok = true := fun k ok hk hki hun hno => by
        refine hfree k ok hk hki ?_ hno
        by_cases hjk : j = k
        · subst hjk; exact hjun
        · rw [getD_set_ne true hjk] at hun; exact hun
      refine stM_mono (fun a' W' h3 => ih (listed.setIfInBounds j true) a' W' hfree' (ready_mono hr (Ne.symm hji)) h3.1 ?_) h2
      rw [Array.setIfInBounds_comm _ _ hji]
      exact h3.2

/-- One walk of the lexical order. -/
def wpMix (P : Program) (ops : Array Oper) (A : List Addr) (S : Nat → Option Addr) (w0 : World) (Q : Act → World → Prop) : Nat → List Oper → Act → World → Prop
  | _, [], a, W => Q a W
  | k, o :: rest, a, W => ∃ v s, Does P ops A w0 o a v s ∧ (∀ p u, s = some (p, u) → S k = some p) ∧ wpMix P ops A S w0 Q (k + 1) rest (a.put o.dst v) (app s W)

theorem wpAnyM_lex {Q : Act → World → Prop} (hs : Region.noSelect ops = true) (hinj : ∀ i j p, S i = some p → S j = some p → i = j) : ∀ (l : List Oper) (k : Nat) (listed : Array Bool) (a : Act) (W : World), (∀ j, l[j]? = ops[k + j]?) →
    Region.lexFrom md ops l.length k listed = true → wpMix P ops A S w0 Q k l a W → wpAnyM P md ops A S w0 Q l.length listed a W
  | [], _, _, _, _, _, hB, h => ⟨by simpa [Region.lexFrom] using hB, h⟩
  | o :: l, k, listed, a, W, hl, hB, h => by
    have h0 : ops[k]? = some o := by simpa using (hl 0).symm
    simp only [List.length_cons, Region.lexFrom, Bool.and_eq_true] at hB
    obtain ⟨⟨hr, hf⟩, hB'⟩ := hB
    have hr' : k ∈ Region.ready md ops listed := by simpa using hr
    obtain ⟨v, s, hy, hS, hK⟩ := h
    exact wpAnyM_first h0 (Region.noSelect_spec hs) hinj hS l.length listed a W (Region.free_spec h0 hf) hr' hy
      (wpAnyM_lex hs hinj l (k + 1) _ _ _ (fun j => by have := hl (j + 1); simpa [Nat.add_assoc, Nat.add_comm 1 j] using this) hB' hK)

/-- The store's place by its number among the operations. -/
def atNo (l : List (Nat × Addr)) (i : Nat) : Option Addr := (l.find? fun x => x.1 == i).map (·.2)
theorem atNo_mem {l : List (Nat × Addr)} {i : Nat} {p : Addr} (h : atNo l i = some p) : (i, p) ∈ l := by
  unfold atNo at h
  obtain ⟨x, hx, rfl⟩ := Option.map_eq_some_iff.1 h
  have h1 := List.find?_some hx
  have h2 := List.mem_of_find?_eq_some hx
  simp only [beq_iff_eq] at h1
  subst h1
  exact h2
theorem atNo_inj {l : List (Nat × Addr)} (hd : l.Pairwise fun x y => x.2 ≠ y.2) : ∀ i j p, atNo l i = some p → atNo l j = some p → i = j := by
  intro i j p hi hj
  have h1 := atNo_mem hi
  have h2 := atNo_mem hj
  by_cases hij : i = j
  · exact hij
  · exfalso
    obtain ⟨n, hn, h1⟩ := List.mem_iff_getElem.1 h1
    obtain ⟨m, hm, h2⟩ := List.mem_iff_getElem.1 h2
    have hp := List.pairwise_iff_getElem.1 hd
    rcases Nat.lt_trichotomy n m with h | h | h
    · exact hp n m hn hm h (by rw [h1, h2])
    · subst h; rw [h1] at h2; exact hij (by injection h2)
    · exact hp m n hm hn h (by rw [h1, h2])

theorem wpAny_mix {l : List Oper} {Q : Exit → Act → World → Prop} {a : Act} {w : World} (L : List (Nat × Addr)) (hd : L.Pairwise fun x y => x.2 ≠ y.2) (hB : Region.lexB .any l.toArray = true)
    (h : wpMix P l.toArray (L.map (·.2)) (atNo L) w (fun a W => Q .normal a W) 0 l a w) : wpAny P .any l.toArray Q l.toArray.size (Array.replicate l.toArray.size false) a w := by
  simp only [Region.lexB, Bool.and_eq_true] at hB
  refine wpAny_of_M (w0 := w) (A := L.map (·.2)) (S := atNo L) (fun i p hi => List.mem_map.2 ⟨_, atNo_mem hi, rfl⟩) (fun a W h => h) _ _ a w .refl ?_
  exact wpAnyM_lex hB.1 (atNo_inj hd) l 0 _ a w (fun j => by simp) (by simpa using hB.2) h

theorem wp_region_mix {id : Nat} {l : List Oper} {Q : Exit → Act → World → Prop} {a : Act} {w : World} (L : List (Nat × Addr)) (hm : P.follows .mixedOrders = true) (hB : Region.lexB .any l.toArray = true)
    (hd : L.Pairwise fun x y => x.2 ≠ y.2) (h : wpMix P l.toArray (L.map (·.2)) (atNo L) w.drew (fun a W => Q .normal a W) 0 l a w.drew) : (Code.region id l.toArray true).wp P Q a w :=
  wp_region_any hm (wpAny_mix L hd hB h)

theorem wpIn_region_mix {F : Fence} (hF : Open F) {id m : Nat} {l : List Oper} {Q : Exit → Act → World → Prop} {a : Act} {w : World} (L : List (Nat × Addr)) (hm : P.follows .mixedOrders = true) (hB : Region.lexB .any l.toArray = true)
    (hnd : l.toArray.all noDefer = true) (hQ : LetsOut Q → False) (hd : L.Pairwise fun x y => x.2 ≠ y.2) (h : wpMix P l.toArray (L.map (·.2)) (atNo L) w.drew (fun a W => Q .normal a W) 0 l a w.drew) : (Code.region id l.toArray true).wpIn F m P Q a w :=
  wpIn_region_of_any hF hm hnd hQ (wpAny_mix L hd hB h)

/-- A step: it runs (not shut by a guard). -/
theorem mix_run {Q : Act → World → Prop} {k : Nat} {o : Oper} {rest : List Oper} {a : Act} {W : World} (v : Value) (s : Option (Addr × Value)) (hw : Region.wanted o (yielded ops a.tmps) = true)
    (h : ∀ W, Near A w0 W → Runs P o a v s W) (hs : ∀ p u, s = some (p, u) → S k = some p) (hK : wpMix P ops A S w0 Q (k + 1) rest (a.put o.dst v) (app s W)) : wpMix P ops A S w0 Q k (o :: rest) a W :=
  ⟨v, s, .inl ⟨hw, h⟩, hs, hK⟩
theorem mix_skip {Q : Act → World → Prop} {k : Nat} {o : Oper} {rest : List Oper} {a : Act} {W : World} (hw : Region.wanted o (yielded ops a.tmps) = false)
    (hK : wpMix P ops A S w0 Q (k + 1) rest (a.put o.dst undef) W) : wpMix P ops A S w0 Q k (o :: rest) a W :=
  ⟨undef, none, .inr ⟨hw, rfl, rfl⟩, (fun _ _ h => by cases h), hK⟩
/-- What an operation that runs comes to. -/
def Oper.mixUpon (P : Program) (v : Value) (s : Option (Addr × Value)) (W : World) : Result Next → Prop
  | .ok (.value u) w' => u = v ∧ w' = app s W
  | .ok .skip w' => undef = v ∧ w' = app s W
  | .ok (.enter f args) w' => s = none ∧ w' = W ∧ Calls P f args W (fun e w'' => e = .returned v ∧ w'' = W)
  | _ => False
theorem runs_of_upon {o : Oper} {a : Act} {v : Value} {s : Option (Addr × Value)} {W : World} (h : Oper.mixUpon P v s W ((execOp a.eval o).run P W)) : Runs P o a v s W := by
  unfold Runs
  generalize (execOp a.eval o).run P W = r at *
  cases r with
  | ok n w' =>
    cases n <;> simp only [Oper.mixUpon] at h
    case value u => obtain ⟨rfl, rfl⟩ := h; exact .inl rfl
    case skip => obtain ⟨rfl, rfl⟩ := h; exact .inr (.inl ⟨rfl, rfl⟩)
    case enter f args => obtain ⟨rfl, rfl, hc⟩ := h; exact .inr (.inr ⟨rfl, f, args, rfl, hc⟩)
  | halt x w' => simp only [Oper.mixUpon] at h
theorem mix_step {Q : Act → World → Prop} {k : Nat} {o : Oper} {rest : List Oper} {a : Act} {W : World} (v : Value) (s : Option (Addr × Value)) (hw : Region.wanted o (yielded ops a.tmps) = true)
    (h : ∀ W, Near A w0 W → Oper.mixUpon P v s W ((execOp a.eval o).run P W)) (hs : ∀ p u, s = some (p, u) → S k = some p) (hK : wpMix P ops A S w0 Q (k + 1) rest (a.put o.dst v) (app s W)) : wpMix P ops A S w0 Q k (o :: rest) a W :=
  mix_run v s hw (fun W hW => runs_of_upon (h W hW)) hs hK
theorem mix_nil {Q : Act → World → Prop} {k : Nat} {a : Act} {W : World} (h : Q a W) : wpMix P ops A S w0 Q k [] a W := h
theorem Near.ex {W : World} (h : Near A w0 W) {q : Addr} {v : Value} (hq : w0.cell? q = some v) : ∃ u, W.cell? q = some u := by
  induction h with
  | refl => exact ⟨v, hq⟩
  | @set W p u _ _ ih =>
    obtain ⟨x, hx⟩ := ih
    by_cases hpq : p = q
    · subst hpq; exact ⟨u, World.cell?_setCell_same _ _ _ hx⟩
    · exact ⟨x, by rw [World.cell?_setCell_other _ _ _ _ hpq]; exact hx⟩
end
end Go.Mine
