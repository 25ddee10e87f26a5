/-
  Prefix trees: the code's answers are the reference's. Plain.
-/
import Derived.Test.YtheihohojmcbiaaRefGet03
namespace Go.Mine
open Go.RowKit

def BinT (s : List UInt8) : Prop := ∀ c ∈ s, c = 48 ∨ c = 49
theorem BinT.of_code {s : List UInt8} (h : codeB s = true) : BinT s := ((codeB_iff s).1 h).1
theorem txtB_bin (l : List Bool) : BinT (txtB l) := fun c hc => by
  obtain ⟨x, -, rfl⟩ := List.mem_map.1 hc
  cases x
  · exact .inl rfl
  · exact .inr rfl
theorem bls_txtB (l : List Bool) : bls (txtB l) = l := by
  induction l with
  | nil => rfl
  | cons x l ih =>
    show _ :: bls (txtB l) = x :: l
    rw [ih]
    cases x <;> rfl
theorem bls_prefix : ∀ (a b : List UInt8), BinT a → BinT b → (bls a <+: bls b ↔ a <+: b)
  | [], b, _, _ => by simp [bls]
  | x :: a, [], _, _ => by simp [bls]
  | x :: a, y :: b, ha, hb => by
    have ih := bls_prefix a b (fun c hc => ha c (List.mem_cons_of_mem _ hc)) (fun c hc => hb c (List.mem_cons_of_mem _ hc))
    have h1 := ha x (List.mem_cons_self ..)
    have h2 := hb y (List.mem_cons_self ..)
    show (x == 49) :: bls a <+: (y == 49) :: bls b ↔ _
    rw [List.cons_prefix_cons, List.cons_prefix_cons, ih]
    have : (x == 49) = (y == 49) ↔ x = y := by
      rcases h1 with rfl | rfl <;> rcases h2 with rfl | rfl <;> decide
    rw [this]

theorem kvOf_length (zs : List (List UInt8 × Int)) : (kvOf zs).length = zs.length := by simp [kvOf]

theorem apart_iff {cs : List (List UInt8)} {ns : List Int} (hl : cs.length = ns.length) (hc : cs.all codeB = true) :
    (kvOf (cs.zip ns)).Pairwise (fun a b => Apart a.1 b.1) ↔ ¬ Clash cs := by
  have hz : (cs.zip ns).length = cs.length := by rw [List.length_zip, ← hl, Nat.min_self]
  have hbin : ∀ i (h : i < cs.length), BinT (cs[i]'h) := fun i h => BinT.of_code (List.all_eq_true.1 hc _ (List.getElem_mem h))
  have hget : ∀ i (h : i < (kvOf (cs.zip ns)).length), ((kvOf (cs.zip ns))[i]'h).1 = bls (cs[i]'(by rw [kvOf_length] at h; omega)) := fun i h => by
    simp [kvOf]
  rw [List.pairwise_iff_getElem]
  constructor
  · rintro h ⟨i, k, hi, hk, hne, hp⟩
    have gi : cs.getD i [] = cs[i]'hi := by rw [List.getD_eq_getElem?_getD, List.getElem?_eq_getElem hi]; rfl
    have gk : cs.getD k [] = cs[k]'hk := by rw [List.getD_eq_getElem?_getD, List.getElem?_eq_getElem hk]; rfl
    rw [gi, gk, List.isPrefixOf_iff_prefix] at hp
    have hp2 := (bls_prefix _ _ (hbin k hk) (hbin i hi)).2 hp
    rcases Nat.lt_or_gt_of_ne hne with hlt | hlt
    · have := h i k (by rw [kvOf_length]; omega) (by rw [kvOf_length]; omega) hlt
      rw [hget, hget] at this
      exact this.2 hp2
    · have := h k i (by rw [kvOf_length]; omega) (by rw [kvOf_length]; omega) hlt
      rw [hget, hget] at this
      exact this.1 hp2
  · intro h i j hi hj hlt
    have hi' : i < cs.length := by rw [kvOf_length] at hi; omega
    have hj' : j < cs.length := by rw [kvOf_length] at hj; omega
    have gi : cs.getD i [] = cs[i]'hi' := by rw [List.getD_eq_getElem?_getD, List.getElem?_eq_getElem hi']; rfl
    have gj : cs.getD j [] = cs[j]'hj' := by rw [List.getD_eq_getElem?_getD, List.getElem?_eq_getElem hj']; rfl
    rw [hget, hget]
    refine ⟨fun hp => h ⟨j, i, hj', hi', by omega, ?_⟩, fun hp => h ⟨i, j, hi', hj', by omega, ?_⟩⟩
    · rw [gi, gj, List.isPrefixOf_iff_prefix]
      exact (bls_prefix _ _ (hbin i hi') (hbin j hj')).1 hp
    · rw [gi, gj, List.isPrefixOf_iff_prefix]
      exact (bls_prefix _ _ (hbin j hj') (hbin i hi')).1 hp

theorem kvOf_ne {cs : List (List UInt8)} {ns : List Int} (hc : cs.all codeB = true) : ∀ c ∈ kvOf (cs.zip ns), c.1 ≠ [] := by
  intro c hm
  obtain ⟨⟨s, n⟩, hm2, rfl⟩ := List.mem_map.1 hm
  have hs := (List.of_mem_zip hm2).1
  have := ((codeB_iff s).1 (List.all_eq_true.1 hc s hs)).2.1
  intro e
  have h2 : (bls s).length = 0 := by rw [show bls s = [] from e]; rfl
  rw [bls_length] at h2
  omega

/-- The tree is built just where no code begins another one. -/
theorem build_iff {cs : List (List UInt8)} {ns : List Int} (hl : cs.length = ns.length) (hc : cs.all codeB = true) :
    (build [TNode.mt] (kvOf (cs.zip ns)) = none ∧ Clash cs) ∨ ∃ t lab, build [TNode.mt] (kvOf (cs.zip ns)) = some t ∧ ¬ Clash cs ∧ TI t lab (kvOf (cs.zip ns)) (fun l => l = []) ∧ (kvOf (cs.zip ns)).Pairwise (fun a b => Apart a.1 b.1) := by
  rcases build_law (kvOf (cs.zip ns)) [] [TNode.mt] [[]] TI.new (kvOf_ne hc) List.Pairwise.nil with ⟨h1, h2⟩ | ⟨t, lab, h1, h2, h3⟩
  · rw [List.nil_append] at h2
    refine .inl ⟨h1, Classical.byContradiction fun h => h2 ((apart_iff hl hc).2 h)⟩
  · rw [List.nil_append] at h2 h3
    exact .inr ⟨t, lab, h1, (apart_iff hl hc).1 h3, h2, h3⟩

theorem find_same {α : Type} {p q : α → Bool} : ∀ (l : List α), (∀ c ∈ l, p c = q c) → l.find? p = l.find? q
  | [], _ => rfl
  | x :: l, h => by
    rw [List.find?_cons, List.find?_cons, h x (List.mem_cons_self ..), find_same l (fun c hc => h c (List.mem_cons_of_mem _ hc))]
theorem any_same {α : Type} {p q : α → Bool} : ∀ (l : List α), (∀ c ∈ l, p c = q c) → l.any p = l.any q
  | [], _ => rfl
  | x :: l, h => by
    rw [List.any_cons, List.any_cons, h x (List.mem_cons_self ..), any_same l (fun c hc => h c (List.mem_cons_of_mem _ hc))]

theorem pre_take {s : List UInt8} (h : codeB s = true) (bits : List Bool) : (bls s).isPrefixOf bits = s.isPrefixOf (txtB (bits.take 24)) := by
  have h24 := ((codeB_iff s).1 h).2.2
  rw [Bool.eq_iff_iff, List.isPrefixOf_iff_prefix, List.isPrefixOf_iff_prefix, ← bls_prefix _ _ (BinT.of_code h) (txtB_bin _), bls_txtB]
  constructor
  · intro hp
    rw [List.prefix_iff_eq_take] at hp ⊢
    rw [List.take_take, bls_length] at *
    rw [Nat.min_eq_left h24]
    exact hp
  · intro hp
    exact hp.trans (List.take_prefix _ _)

theorem getOf_kv {zs : List (List UInt8 × Int)} (hc : ∀ c ∈ zs, codeB c.1 = true) (bits : List Bool) : getOf (kvOf zs) bits = rgetF zs (txtB (bits.take 24)) := by
  have h1 : (kvOf zs).find? (fun c => c.1.isPrefixOf bits) = (zs.find? fun c => c.1.isPrefixOf (txtB (bits.take 24))).map fun c => (bls c.1, c.2) := by
    rw [kvOf, List.find?_map]
    congr 1
    exact find_same zs fun c hm => pre_take (hc c hm) bits
  rw [getOf, h1, rgetF]
  cases hf : zs.find? fun c => c.1.isPrefixOf (txtB (bits.take 24)) with
  | some c => simp only [Option.map_some, bls_length]
  | none =>
    simp only [Option.map_none]
    have h2 : (kvOf zs).any (fun c => bits.isPrefixOf c.1) = zs.any fun c => (txtB (bits.take 24)).isPrefixOf c.1 := by
      rw [kvOf, List.any_map]
      refine any_same zs fun c hm => ?_
      have hcc := hc c hm
      have h24 := ((codeB_iff c.1).1 hcc).2.2
      show bits.isPrefixOf (bls c.1) = _
      rw [Bool.eq_iff_iff, List.isPrefixOf_iff_prefix, List.isPrefixOf_iff_prefix, ← bls_prefix _ _ (txtB_bin _) (BinT.of_code hcc), bls_txtB]
      constructor
      · exact fun hp => (List.take_prefix _ _).trans hp
      · intro hp
        by_cases hlen : bits.length ≤ 24
        · rwa [List.take_of_length_le hlen] at hp
        · exfalso
          have hl := hp.length_le
          rw [List.length_take, bls_length] at hl
          have heq : bits.take 24 = bls c.1 := hp.eq_of_length (by rw [List.length_take, bls_length]; omega)
          have hno := List.find?_eq_none.1 hf c hm
          rw [← pre_take hcc bits, ← heq] at hno
          exact hno (List.isPrefixOf_iff_prefix.2 (List.take_prefix _ _))
    rw [h2]

/-- What is got is the reference's. -/
theorem getF_ref {cs : List (List UInt8)} {ns : List Int} (hl : cs.length = ns.length) (h0 : 0 < cs.length) (hc : cs.all codeB = true) {t : List TNode} (hb : build [TNode.mt] (kvOf (cs.zip ns)) = some t) (bs : List UInt8) (i : Nat) :
    getF t 0 0 (bitsFrom bs i) = rgetF (cs.zip ns) (seenOf bs i) := by
  rcases build_iff hl hc with ⟨h1, _⟩ | ⟨t', lab, h1, -, h2, h3⟩
  · rw [h1] at hb; cases hb
  · rw [h1] at hb
    injection hb with hb
    subst hb
    have hz : (cs.zip ns).length = cs.length := by rw [List.length_zip, ← hl, Nat.min_self]
    have hk : kvOf (cs.zip ns) ≠ [] := fun e => by
      have := congrArg List.length e
      rw [kvOf_length, hz, List.length_nil] at this
      omega
    have := getF_law h2 h3 hk (bitsFrom bs i) 0 [] h2.root (fun c hm hp => kvOf_ne hc c hm (List.prefix_nil.1 hp))
    rw [List.nil_append] at this
    rw [show ([] : List Bool).length = 0 from rfl] at this
    rw [this, getOf_kv (fun c hm => List.all_eq_true.1 hc _ (List.of_mem_zip (a := c.1) (b := c.2) hm).1)]
    rfl
end Go.Mine
