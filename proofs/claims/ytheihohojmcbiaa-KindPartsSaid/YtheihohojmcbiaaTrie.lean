/-
  A tree of prefix codes, in plain Lean: nodes in a list; what is put in, what is got. Nothing here names a program.
-/
import Derived.Test.YtheihohojmcbiaaBase
namespace Go.Mine

structure TNode where
  t0 : Nat
  t1 : Nat
  leaf : Bool
  num : Int
deriving DecidableEq

namespace TNode
def mt : TNode := ⟨0, 0, false, 0⟩
def to (n : TNode) (x : Bool) : Nat := if x then n.t1 else n.t0
def setTo (n : TNode) (x : Bool) (v : Nat) : TNode := if x then { n with t1 := v } else { n with t0 := v }
theorem to_setTo (n : TNode) (x : Bool) (v : Nat) : (n.setTo x v).to x = v := by cases x <;> rfl
theorem to_setTo_ne (n : TNode) (x y : Bool) (v : Nat) (h : x ≠ y) : (n.setTo x v).to y = n.to y := by cases x <;> cases y <;> first | rfl | exact absurd rfl h
theorem leaf_setTo (n : TNode) (x : Bool) (v : Nat) : (n.setTo x v).leaf = n.leaf := by cases x <;> rfl
theorem num_setTo (n : TNode) (x : Bool) (v : Nat) : (n.setTo x v).num = n.num := by cases x <;> rfl
end TNode

abbrev KV := List (List Bool × Int)

/-- A new child of a node. -/
def grow (t : List TNode) (at_ : Nat) (n : TNode) (x : Bool) : List TNode := (t ++ [TNode.mt]).set at_ (n.setTo x t.length)

def putF : List TNode → Nat → List Bool → Option (List TNode × Nat)
  | t, at_, [] => some (t, at_)
  | t, at_, x :: s =>
    let n := t.getD at_ TNode.mt
    if n.leaf then none else if n.to x = 0 then putF (grow t at_ n x) t.length s else putF t (n.to x) s
def put1 (t : List TNode) (s : List Bool) (num : Int) : Option (List TNode) :=
  match putF t 0 s with
  | none => none
  | some (t', at_) => let n := t'.getD at_ TNode.mt; if n.leaf = true ∨ n.t0 ≠ 0 ∨ n.t1 ≠ 0 then none else some (t'.set at_ { n with leaf := true, num := num })
def build : List TNode → KV → Option (List TNode)
  | t, [] => some t
  | t, (s, n) :: kv => match put1 t s n with
    | none => none
    | some t' => build t' kv

/-- What is in the tree: each node has its bits; 'more' says which bits have nodes besides those of codes. -/
structure TI (t : List TNode) (lab : List (List Bool)) (kv : KV) (more : List Bool → Prop) : Prop where
  len : lab.length = t.length
  root : lab[0]? = some []
  nd : lab.Nodup
  some_ : ∀ (i : Nat) n l x, t[i]? = some n → lab[i]? = some l → n.to x ≠ 0 → lab[n.to x]? = some (l ++ [x])
  none_ : ∀ (i : Nat) n l x, t[i]? = some n → lab[i]? = some l → n.to x = 0 → l ++ [x] ∉ lab
  leaf_ : ∀ (i : Nat) n l, t[i]? = some n → lab[i]? = some l → n.leaf = true → (l, n.num) ∈ kv
  leaf' : ∀ (i : Nat) n l, t[i]? = some n → lab[i]? = some l → (∃ m, (l, m) ∈ kv) → n.leaf = true
  closed : ∀ l x, l ++ [x] ∈ lab → l ∈ lab
  code : ∀ c ∈ kv, c.1 ∈ lab
  only : ∀ l ∈ lab, (∃ c ∈ kv, l <+: c.1) ∨ more l

theorem TI.pre {t : List TNode} {lab : List (List Bool)} {kv : KV} {more : List Bool → Prop} (h : TI t lab kv more) {l c : List Bool} (hp : l <+: c) (hc : c ∈ lab) : l ∈ lab := by
  obtain ⟨r, rfl⟩ := hp
  have key : ∀ (n : Nat) (r : List Bool), r.length = n → l ++ r ∈ lab → l ∈ lab := by
    intro n
    induction n with
    | zero => intro r hr hc; obtain rfl := List.eq_nil_of_length_eq_zero hr; simpa using hc
    | succ n ih =>
      intro r hr hc
      rcases List.eq_nil_or_concat r with rfl | ⟨r', x, rfl⟩
      · simp at hr
      · exact ih r' (by simpa using hr) (h.closed _ x (by simpa using hc))
  exact key _ r rfl hc
theorem TI.at_ {t : List TNode} {lab : List (List Bool)} {kv : KV} {more : List Bool → Prop} (h : TI t lab kv more) {i : Nat} {l : List Bool} (hl : lab[i]? = some l) : ∃ n, t[i]? = some n := by
  have := (List.getElem?_eq_some_iff.1 hl).1
  rw [h.len] at this
  exact ⟨_, List.getElem?_eq_getElem this⟩
theorem TI.inj {t : List TNode} {lab : List (List Bool)} {kv : KV} {more : List Bool → Prop} (h : TI t lab kv more) {i j : Nat} {l : List Bool} (hi : lab[i]? = some l) (hj : lab[j]? = some l) : i = j := by
  obtain ⟨l1, g1⟩ := List.getElem?_eq_some_iff.1 hi
  obtain ⟨l2, g2⟩ := List.getElem?_eq_some_iff.1 hj
  rcases Nat.lt_trichotomy i j with hl | hl | hl
  · exact absurd (by rw [g1, g2]) (List.pairwise_iff_getElem.1 h.nd i j l1 l2 hl)
  · exact hl
  · exact absurd (by rw [g1, g2]) (List.pairwise_iff_getElem.1 h.nd j i l2 l1 hl)

theorem TI.new : TI [TNode.mt] [[]] [] (fun l => l = []) := by
  refine ⟨rfl, rfl, by simp, ?_, ?_, ?_, ?_, ?_, ?_, ?_⟩
  · intro i n l x hn hl h
    cases i with
    | zero => simp at hn; subst hn; cases x <;> simp [TNode.to, TNode.mt] at h
    | succ i => simp at hn
  · intro i n l x hn hl h
    simp
  · intro i n l hn hl h
    cases i with
    | zero => simp at hn; subst hn; simp [TNode.mt] at h
    | succ i => simp at hn
  · rintro i n l hn hl ⟨m, hm⟩; simp at hm
  · intro l x h; simp at h
  · intro c h; simp at h
  · intro l h; simp at h; exact .inr h

/-- A node more. -/
theorem TI.grow {t : List TNode} {lab : List (List Bool)} {kv : KV} {more : List Bool → Prop} (h : TI t lab kv more) {a : Nat} {n : TNode} {p : List Bool} {x : Bool} (hn : t[a]? = some n) (hl : lab[a]? = some p) (h0 : n.to x = 0)
    (hcode : ∀ c ∈ kv, c.1 ≠ p ++ [x]) : TI (grow t a n x) (lab ++ [p ++ [x]]) kv (fun l => more l ∨ l = p ++ [x]) := by
  have hat : a < t.length := (List.getElem?_eq_some_iff.1 hn).1
  have hnot := h.none_ a n p x hn hl h0
  have hpos : t.length ≠ 0 := by omega
  have hget : ∀ i m, (Go.Mine.grow t a n x)[i]? = some m → (i = a ∧ m = n.setTo x t.length) ∨ (i ≠ a ∧ i < t.length ∧ t[i]? = some m) ∨ (i = t.length ∧ m = TNode.mt) := by
    intro i m hm
    unfold Go.Mine.grow at hm
    by_cases hia : a = i
    · subst hia
      rw [List.getElem?_set_self (by simp; omega)] at hm
      exact .inl ⟨rfl, by injection hm with hm; exact hm.symm⟩
    · rw [List.getElem?_set_ne hia] at hm
      rcases Nat.lt_trichotomy i t.length with hi | hi | hi
      · rw [List.getElem?_append_left hi] at hm
        exact .inr (.inl ⟨Ne.symm hia, hi, hm⟩)
      · subst hi
        rw [List.getElem?_append_right (Nat.le_refl _)] at hm
        simp at hm
        exact .inr (.inr ⟨rfl, hm.symm⟩)
      · rw [List.getElem?_eq_none (by simp; omega)] at hm; cases hm
  have hlab : ∀ (i : Nat) l, (lab ++ [p ++ [x]])[i]? = some l → (i < t.length ∧ lab[i]? = some l) ∨ (i = t.length ∧ l = p ++ [x]) := by
    intro i l hi
    rw [← h.len]
    rcases Nat.lt_trichotomy i lab.length with h1 | h1 | h1
    · rw [List.getElem?_append_left h1] at hi; exact .inl ⟨h1, hi⟩
    · subst h1; rw [List.getElem?_append_right (Nat.le_refl _)] at hi; simp at hi; exact .inr ⟨rfl, hi.symm⟩
    · rw [List.getElem?_eq_none (by simp; omega)] at hi; cases hi
  have hmono : ∀ (i : Nat) l, lab[i]? = some l → (lab ++ [p ++ [x]])[i]? = some l := fun i l hi => by
    rw [List.getElem?_append_left (List.getElem?_eq_some_iff.1 hi).1]; exact hi
  have hlast : (lab ++ [p ++ [x]])[t.length]? = some (p ++ [x]) := by rw [← h.len, List.getElem?_append_right (Nat.le_refl _)]; simp
  refine ⟨by unfold Go.Mine.grow; simp [h.len], hmono _ _ h.root, ?_, ?_, ?_, ?_, ?_, ?_, ?_, ?_⟩
  · rw [List.nodup_append]
    exact ⟨h.nd, by simp, fun y hy z hz e => by simp at hz; subst hz; subst e; exact hnot hy⟩
  · intro i m l y hm hi hy
    rcases hget i m hm with ⟨rfl, rfl⟩ | ⟨hia, hit, hm⟩ | ⟨rfl, rfl⟩
    · rcases hlab _ l hi with ⟨_, hi⟩ | ⟨rfl, _⟩
      · rw [hl] at hi; injection hi with hi; subst hi
        by_cases hxy : x = y
        · subst hxy; rw [TNode.to_setTo]; exact hlast
        · rw [TNode.to_setTo_ne _ _ _ _ hxy] at hy ⊢; exact hmono _ _ (h.some_ _ n _ y hn hl hy)
      · omega
    · rcases hlab _ l hi with ⟨_, hi⟩ | ⟨rfl, _⟩
      · exact hmono _ _ (h.some_ i m l y hm hi hy)
      · omega
    · cases y <;> simp [TNode.to, TNode.mt] at hy
  · intro i m l y hm hi hy
    rcases hget i m hm with ⟨rfl, rfl⟩ | ⟨hia, hit, hm⟩ | ⟨rfl, rfl⟩
    · rcases hlab _ l hi with ⟨_, hi⟩ | ⟨rfl, _⟩
      · rw [hl] at hi; injection hi with hi; subst hi
        by_cases hxy : x = y
        · subst hxy; rw [TNode.to_setTo] at hy; omega
        · rw [TNode.to_setTo_ne _ _ _ _ hxy] at hy
          simp only [List.mem_append, List.mem_singleton, not_or]
          exact ⟨h.none_ _ n _ y hn hl hy, fun e => hxy (by have := (List.append_inj' e rfl).2; simpa using this.symm)⟩
      · omega
    · rcases hlab _ l hi with ⟨_, hi⟩ | ⟨rfl, _⟩
      · simp only [List.mem_append, List.mem_singleton, not_or]
        refine ⟨h.none_ i m l y hm hi hy, fun e => ?_⟩
        have e1 := (List.append_inj' e rfl).1
        exact hia (h.inj hi (by rw [e1]; exact hl))
      · omega
    · rcases hlab _ l hi with ⟨hlt, _⟩ | ⟨_, rfl⟩
      · omega
      · simp only [List.mem_append, List.mem_singleton, not_or]
        refine ⟨fun hm => hnot (h.closed _ y hm), fun e => ?_⟩
        have := congrArg List.length e
        simp at this
  · intro i m l hm hi hy
    rcases hget i m hm with ⟨rfl, rfl⟩ | ⟨hia, hit, hm⟩ | ⟨rfl, rfl⟩
    · rcases hlab _ l hi with ⟨_, hi⟩ | ⟨rfl, _⟩
      · rw [TNode.leaf_setTo] at hy; rw [TNode.num_setTo]; exact h.leaf_ _ n l hn hi hy
      · omega
    · rcases hlab _ l hi with ⟨_, hi⟩ | ⟨rfl, _⟩
      · exact h.leaf_ i m l hm hi hy
      · omega
    · simp [TNode.mt] at hy
  · intro i m l hm hi hy
    rcases hget i m hm with ⟨rfl, rfl⟩ | ⟨hia, hit, hm⟩ | ⟨rfl, rfl⟩
    · rcases hlab _ l hi with ⟨_, hi⟩ | ⟨rfl, _⟩
      · rw [TNode.leaf_setTo]; exact h.leaf' _ n l hn hi hy
      · omega
    · rcases hlab _ l hi with ⟨_, hi⟩ | ⟨rfl, _⟩
      · exact h.leaf' i m l hm hi hy
      · omega
    · rcases hlab _ l hi with ⟨hlt, _⟩ | ⟨_, rfl⟩
      · omega
      · obtain ⟨k, hk⟩ := hy
        exact absurd rfl (hcode _ hk)
  · intro l y hm
    simp only [List.mem_append, List.mem_singleton] at hm ⊢
    rcases hm with hm | hm
    · exact .inl (h.closed l y hm)
    · have e1 := (List.append_inj' hm rfl).1
      subst e1
      exact .inl (List.mem_of_getElem? hl)
  · intro c hc
    exact List.mem_append_left _ (h.code c hc)
  · intro l hm
    simp only [List.mem_append, List.mem_singleton] at hm
    rcases hm with hm | hm
    · exact (h.only l hm).imp id .inl
    · exact .inr (.inr hm)

theorem TI.weak {t : List TNode} {lab : List (List Bool)} {kv : KV} {more more' : List Bool → Prop} (h : TI t lab kv more) (hm : ∀ l, l ∈ lab → more l → more' l) : TI t lab kv more' :=
  ⟨h.len, h.root, h.nd, h.some_, h.none_, h.leaf_, h.leaf', h.closed, h.code, fun l hl => (h.only l hl).imp id (hm l hl)⟩

/-- The way down, laying nodes where there are none: s is what is left, p what was gone. -/
theorem putF_law {kv : KV} (t : List TNode) (lab : List (List Bool)) (a : Nat) (s p : List Bool) (h : TI t lab kv (fun l => l <+: p)) (hp : lab[a]? = some p) (hno : ∀ c ∈ kv, c.1 <+: p → c.1 = p) :
    (putF t a s = none ∧ ∃ c ∈ kv, c.1 <+: p ++ s ∧ c.1 ≠ p ++ s) ∨
    ∃ t' a' lab', putF t a s = some (t', a') ∧ TI t' lab' kv (fun l => l <+: p ++ s) ∧ lab'[a']? = some (p ++ s) ∧ (∀ c ∈ kv, c.1 <+: p ++ s → c.1 = p ++ s) ∧ t.length ≤ t'.length ∧ t'.length ≤ t.length + s.length := by
  induction s generalizing t lab a p with
  | nil => exact .inr ⟨t, a, lab, rfl, by simpa using h, by simpa using hp, by simpa using hno, Nat.le_refl _, Nat.le_refl _⟩
  | cons x s ih =>
    obtain ⟨n, hn⟩ := h.at_ hp
    have hg : t.getD a TNode.mt = n := by rw [List.getD_eq_getElem?_getD, hn]; rfl
    rw [putF]
    simp only [hg]
    by_cases hlf : n.leaf = true
    · rw [if_pos hlf]
      refine .inl ⟨rfl, _, h.leaf_ a n p hn hp hlf, List.prefix_append _ _, fun e => ?_⟩
      have := congrArg List.length e
      simp at this
    · rw [if_neg hlf]
      have hnp : ∀ c ∈ kv, c.1 ≠ p := fun c hc e => hlf (h.leaf' a n p hn hp ⟨c.2, by rw [← e]; exact hc⟩)
      have hno' : ∀ c ∈ kv, c.1 <+: p ++ [x] → c.1 = p ++ [x] := fun c hc hpre => by
        rcases List.prefix_concat_iff.1 hpre with e | e
        · exact e
        · exact absurd (hno c hc e) (hnp c hc)
      by_cases h0 : n.to x = 0
      · rw [if_pos h0]
        have hnc : ∀ c ∈ kv, c.1 ≠ p ++ [x] := fun c hc e => h.none_ a n p x hn hp h0 (by rw [← e]; exact h.code c hc)
        have hg2 := (h.grow hn hp h0 hnc).weak (more' := fun l => l <+: p ++ [x]) (fun l _ hl => by
          rcases hl with hl | hl
          · exact hl.trans (List.prefix_append _ _)
          · subst hl; exact List.prefix_refl _)
        have hlast : (lab ++ [p ++ [x]])[t.length]? = some (p ++ [x]) := by rw [← h.len, List.getElem?_append_right (Nat.le_refl _)]; simp
        have hgl : (Go.Mine.grow t a n x).length = t.length + 1 := by simp [Go.Mine.grow]
        have := ih (Go.Mine.grow t a n x) (lab ++ [p ++ [x]]) t.length (p ++ [x]) hg2 hlast hno'
        rw [hgl] at this
        simp only [List.append_assoc, List.singleton_append] at this
        simp only [List.length_cons]
        rcases this with h1 | ⟨t', a', lab', h1, h2, h3, h4, h5, h6⟩
        · exact .inl h1
        · exact .inr ⟨t', a', lab', h1, h2, h3, h4, by omega, by omega⟩
      · rw [if_neg h0]
        have h2 := h.weak (more' := fun l => l <+: p ++ [x]) (fun l _ hl => hl.trans (List.prefix_append _ _))
        have := ih t lab (n.to x) (p ++ [x]) h2 (h.some_ a n p x hn hp h0) hno'
        simp only [List.append_assoc, List.singleton_append] at this
        simp only [List.length_cons]
        rcases this with h1 | ⟨t', a', lab', h1, h2, h3, h4, h5, h6⟩
        · exact .inl h1
        · exact .inr ⟨t', a', lab', h1, h2, h3, h4, by omega, by omega⟩

/-- Neither begins the other. -/
def Apart (a b : List Bool) : Prop := ¬ a <+: b ∧ ¬ b <+: a

theorem put1_law {kv : KV} {t : List TNode} {lab : List (List Bool)} (s : List Bool) (num : Int) (h : TI t lab kv (fun l => l = [])) (hne : s ≠ []) :
    (put1 t s num = none ∧ ∃ c ∈ kv, ¬ Apart c.1 s) ∨
    ∃ t' lab', put1 t s num = some t' ∧ TI t' lab' (kv ++ [(s, num)]) (fun l => l = []) ∧ (∀ c ∈ kv, Apart c.1 s) ∧ t.length ≤ t'.length ∧ t'.length ≤ t.length + s.length := by
  have h' := h.weak (more' := fun l => l <+: []) (fun l _ hl => by subst hl; exact List.prefix_refl _)
  by_cases hempty : ∃ c ∈ kv, c.1 = []
  · obtain ⟨c, hc, hce⟩ := hempty
    obtain ⟨n, hn⟩ := h.at_ h.root
    have hlf := h.leaf' 0 n [] hn h.root ⟨c.2, by rw [← hce]; exact hc⟩
    have hg : t.getD 0 TNode.mt = n := by rw [List.getD_eq_getElem?_getD, hn]; rfl
    refine .inl ⟨?_, c, hc, fun ha => ha.1 (by rw [hce]; exact List.nil_prefix)⟩
    obtain ⟨x, s, rfl⟩ := List.exists_cons_of_ne_nil hne
    unfold put1
    rw [putF]
    simp only [hg, hlf, if_true]
  · have hno : ∀ c ∈ kv, c.1 <+: [] → c.1 = [] := fun c _ hp => by simpa using hp
    rcases putF_law t lab 0 s [] h' h.root hno with ⟨h1, c, hc, hp, _⟩ | ⟨t', a, lab', h1, h2, h3, h4, h5, h6⟩
    · exact .inl ⟨by unfold put1; rw [h1], c, hc, fun ha => ha.1 (by simpa using hp)⟩
    · simp only [List.nil_append] at h2 h3 h4
      obtain ⟨n, hn⟩ := h2.at_ h3
      have hg : t'.getD a TNode.mt = n := by rw [List.getD_eq_getElem?_getD, hn]; rfl
      have hput : put1 t s num = if n.leaf = true ∨ n.t0 ≠ 0 ∨ n.t1 ≠ 0 then none else some (t'.set a { n with leaf := true, num := num }) := by
        unfold put1; rw [h1]; simp only [hg]
      rw [hput]
      by_cases hc : n.leaf = true ∨ n.t0 ≠ 0 ∨ n.t1 ≠ 0
      · rw [if_pos hc]
        left
        refine ⟨rfl, ?_⟩
        have hto : ∀ x, n.to x ≠ 0 → ∃ c ∈ kv, ¬ Apart c.1 s := fun x hx => by
          have hl := List.mem_of_getElem? (h2.some_ a n s x hn h3 hx)
          rcases h2.only _ hl with ⟨c, hc, hp⟩ | hp
          · exact ⟨c, hc, fun ha => ha.2 ((List.prefix_append _ _).trans hp)⟩
          · have := hp.length_le; simp at this; omega
        rcases hc with hc | hc | hc
        · exact ⟨_, h2.leaf_ a n s hn h3 hc, fun ha => ha.1 (List.prefix_refl _)⟩
        · exact hto false (by simpa [TNode.to] using hc)
        · exact hto true (by simpa [TNode.to] using hc)
      · rw [if_neg hc]
        right
        simp only [not_or, ne_eq, Decidable.not_not] at hc
        obtain ⟨hlf, h00, h01⟩ := hc
        have hto : ∀ x, n.to x = 0 := fun x => by cases x <;> simp [TNode.to, h00, h01]
        have hns : ∀ c ∈ kv, c.1 ≠ s := fun c hc e => hlf (h2.leaf' a n s hn h3 ⟨c.2, by rw [← e]; exact hc⟩)
        have hap : ∀ c ∈ kv, Apart c.1 s := fun c hc => by
          refine ⟨fun hp => hns c hc (h4 c hc hp), fun hp => ?_⟩
          obtain ⟨r, hr⟩ := hp
          cases r with
          | nil => exact hns c hc (by simpa using hr.symm)
          | cons x r =>
            refine h2.none_ a n s x hn h3 (hto x) (h2.pre (c := c.1) ⟨r, by rw [← hr]; simp⟩ (h2.code c hc))
        have halt : a < t'.length := (List.getElem?_eq_some_iff.1 hn).1
        have hget : ∀ (i : Nat) m, (t'.set a { n with leaf := true, num := num })[i]? = some m → (i = a ∧ m = { n with leaf := true, num := num }) ∨ (i ≠ a ∧ t'[i]? = some m) := fun i m hm => by
          by_cases hia : a = i
          · subst hia; rw [List.getElem?_set_self halt] at hm; exact .inl ⟨rfl, by injection hm with hm; exact hm.symm⟩
          · rw [List.getElem?_set_ne hia] at hm; exact .inr ⟨Ne.symm hia, hm⟩
        refine ⟨_, lab', rfl, ⟨by simp [h2.len], h2.root, h2.nd, ?_, ?_, ?_, ?_, h2.closed, ?_, ?_⟩, hap, by simpa using h5, by simpa using h6⟩
        · intro i m l x hm hl hx
          rcases hget i m hm with ⟨rfl, rfl⟩ | ⟨hia, hm⟩
          · exact h2.some_ _ n l x hn hl hx
          · exact h2.some_ i m l x hm hl hx
        · intro i m l x hm hl hx
          rcases hget i m hm with ⟨rfl, rfl⟩ | ⟨hia, hm⟩
          · exact h2.none_ _ n l x hn hl hx
          · exact h2.none_ i m l x hm hl hx
        · intro i m l hm hl hx
          rcases hget i m hm with ⟨rfl, rfl⟩ | ⟨hia, hm⟩
          · rw [h3] at hl; injection hl with hl; subst hl; simp
          · exact List.mem_append_left _ (h2.leaf_ i m l hm hl hx)
        · rintro i m l hm hl ⟨k, hk⟩
          rcases hget i m hm with ⟨rfl, rfl⟩ | ⟨hia, hm⟩
          · rfl
          · rcases List.mem_append.1 hk with hk | hk
            · exact h2.leaf' i m l hm hl ⟨k, hk⟩
            · simp at hk
              exact absurd (h2.inj hl (by rw [hk.1]; exact h3)) hia
        · intro c hc
          rcases List.mem_append.1 hc with hc | hc
          · exact h2.code c hc
          · simp at hc; subst hc; exact List.mem_of_getElem? h3
        · intro l hl
          rcases h2.only l hl with ⟨c, hc, hp⟩ | hp
          · exact .inl ⟨c, List.mem_append_left _ hc, hp⟩
          · exact .inl ⟨_, List.mem_append_right _ (List.mem_singleton.2 rfl), hp⟩

/-- All of them in. -/
theorem build_law (rest : KV) : ∀ (kv : KV) (t : List TNode) (lab : List (List Bool)), TI t lab kv (fun l => l = []) → (∀ c ∈ rest, c.1 ≠ []) → kv.Pairwise (fun a b => Apart a.1 b.1) →
    (build t rest = none ∧ ¬ (kv ++ rest).Pairwise (fun a b => Apart a.1 b.1)) ∨ ∃ t' lab', build t rest = some t' ∧ TI t' lab' (kv ++ rest) (fun l => l = []) ∧ (kv ++ rest).Pairwise (fun a b => Apart a.1 b.1) := by
  induction rest with
  | nil => intro kv t lab h _ hp; exact .inr ⟨t, lab, rfl, by simpa using h, by simpa using hp⟩
  | cons c rest ih =>
    intro kv t lab h hne hp
    obtain ⟨s, num⟩ := c
    rcases put1_law s num h (hne _ (List.mem_cons_self ..)) with ⟨h1, c, hc, hna⟩ | ⟨t', lab', h1, h2, h3, _⟩
    · refine .inl ⟨by rw [build, h1], fun hpw => ?_⟩
      rw [List.pairwise_append] at hpw
      exact hna (hpw.2.2 c hc _ (List.mem_cons_self ..))
    · have hp' : (kv ++ [(s, num)]).Pairwise (fun a b => Apart a.1 b.1) := by
        rw [List.pairwise_append]
        exact ⟨hp, by simp, fun a ha b hb => by simp at hb; subst hb; exact h3 a ha⟩
      have := ih (kv ++ [(s, num)]) t' lab' h2 (fun c hc => hne c (List.mem_cons_of_mem _ hc)) hp'
      rw [build, h1]
      simpa using this

/-- What is got of bits. -/
def getF (t : List TNode) : Nat → Nat → List Bool → Int × Int × Int
  | _, _, [] => (0, 0, 5)
  | a, many, x :: bits =>
    let n := t.getD a TNode.mt
    if n.to x = 0 then (0, 0, 7) else
      let m := t.getD (n.to x) TNode.mt
      if m.leaf then (m.num, ((many + 1 : Nat) : Int), 0) else getF t (n.to x) (many + 1) bits
/-- What is got, by the codes. -/
def getOf (kv : KV) (bits : List Bool) : Int × Int × Int :=
  match kv.find? fun c => c.1.isPrefixOf bits with
  | some c => (c.2, (c.1.length : Int), 0)
  | none => if kv.any fun c => bits.isPrefixOf c.1 then (0, 0, 5) else (0, 0, 7)

theorem getF_law {kv : KV} {t : List TNode} {lab : List (List Bool)} (h : TI t lab kv (fun l => l = [])) (hpw : kv.Pairwise (fun a b => Apart a.1 b.1)) (hk : kv ≠ []) :
    ∀ (bits : List Bool) (a : Nat) (p : List Bool), lab[a]? = some p → (∀ c ∈ kv, ¬ c.1 <+: p) → getF t a p.length bits = getOf kv (p ++ bits)
  | [], a, p, hp, hno => by
    have h1 : (kv.find? fun c => c.1.isPrefixOf (p ++ [])) = none := by
      rw [List.find?_eq_none]
      intro c hc hpre
      exact hno c hc (by simpa using hpre)
    have h2 : (kv.any fun c => (p ++ []).isPrefixOf c.1) = true := by
      rw [List.any_eq_true]
      rcases h.only p (List.mem_of_getElem? hp) with ⟨c, hc, hpre⟩ | rfl
      · exact ⟨c, hc, by simpa using hpre⟩
      · obtain ⟨c, kv', rfl⟩ := List.exists_cons_of_ne_nil hk
        exact ⟨c, List.mem_cons_self .., by simp⟩
    rw [getF, getOf, h1]
    simp only [h2, if_true]
  | x :: bits, a, p, hp, hno => by
    obtain ⟨n, hn⟩ := h.at_ hp
    have hg : t.getD a TNode.mt = n := by rw [List.getD_eq_getElem?_getD, hn]; rfl
    have hsp : p ++ x :: bits = (p ++ [x]) ++ bits := by simp
    rw [getF]
    simp only [hg]
    by_cases h0 : n.to x = 0
    · rw [if_pos h0]
      have hnl := h.none_ a n p x hn hp h0
      have hnc : ∀ c ∈ kv, ¬ p ++ [x] <+: c.1 := fun c hc hpre => hnl (h.pre hpre (h.code c hc))
      have h1 : (kv.find? fun c => c.1.isPrefixOf (p ++ x :: bits)) = none := by
        rw [List.find?_eq_none]
        intro c hc hpre
        rw [List.isPrefixOf_iff_prefix, hsp] at hpre
        rcases List.prefix_or_prefix_of_prefix hpre (List.prefix_append (p ++ [x]) bits) with h2 | h2
        · rcases List.prefix_concat_iff.1 h2 with e | e
          · exact hnc c hc (by rw [e]; exact List.prefix_refl _)
          · exact hno c hc e
        · exact hnc c hc h2
      have h2 : (kv.any fun c => (p ++ x :: bits).isPrefixOf c.1) = false := by
        rw [List.any_eq_false]
        intro c hc hpre
        rw [List.isPrefixOf_iff_prefix, hsp] at hpre
        exact hnc c hc ((List.prefix_append _ _).trans hpre)
      rw [getOf, h1]
      simp only [h2, Bool.false_eq_true, if_false]
    · rw [if_neg h0]
      have hj := h.some_ a n p x hn hp h0
      obtain ⟨m, hm⟩ := h.at_ hj
      have hgm : t.getD (n.to x) TNode.mt = m := by rw [List.getD_eq_getElem?_getD, hm]; rfl
      simp only [hgm]
      by_cases hlf : m.leaf = true
      · rw [if_pos hlf]
        have hmem := h.leaf_ _ m _ hm hj hlf
        have hfind : (kv.find? fun c => c.1.isPrefixOf (p ++ x :: bits)) = some (p ++ [x], m.num) := by
          cases hf : kv.find? fun c => c.1.isPrefixOf (p ++ x :: bits) with
          | none =>
            rw [List.find?_eq_none] at hf
            exact absurd (by rw [List.isPrefixOf_iff_prefix, hsp]; exact List.prefix_append _ _) (hf _ hmem)
          | some c =>
            have hc := List.mem_of_find?_eq_some hf
            have hpre := List.find?_some hf
            rw [List.isPrefixOf_iff_prefix, hsp] at hpre
            have hcomp := List.prefix_or_prefix_of_prefix hpre (List.prefix_append (p ++ [x]) bits)
            obtain ⟨i, hi, e1⟩ := List.mem_iff_getElem.1 hc
            obtain ⟨j, hj, e2⟩ := List.mem_iff_getElem.1 hmem
            have hpg := List.pairwise_iff_getElem.1 hpw
            rcases Nat.lt_trichotomy i j with hl | hl | hl
            · have := hpg i j hi hj hl
              rw [e1, e2] at this
              rcases hcomp with h2 | h2
              · exact absurd h2 this.1
              · exact absurd h2 this.2
            · subst hl; rw [← e1, ← e2]
            · have := hpg j i hj hi hl
              rw [e1, e2] at this
              rcases hcomp with h2 | h2
              · exact absurd h2 this.2
              · exact absurd h2 this.1
        rw [getOf, hfind]
        simp
      · rw [if_neg hlf]
        have hno' : ∀ c ∈ kv, ¬ c.1 <+: p ++ [x] := fun c hc hpre => by
          rcases List.prefix_concat_iff.1 hpre with e | e
          · exact hlf (h.leaf' _ m _ hm hj ⟨c.2, by rw [← e]; exact hc⟩)
          · exact hno c hc e
        have := getF_law h hpw hk bits (n.to x) (p ++ [x]) hj hno'
        rw [← hsp] at this
        rw [← this]
        simp
end Go.Mine
