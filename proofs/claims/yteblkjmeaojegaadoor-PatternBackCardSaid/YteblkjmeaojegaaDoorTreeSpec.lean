/-
  A tree of codes with numbers: what stands at a place is got. Plain.
-/
import Derived.Test.YteblkjmeaojegaaDoorBackSpec
namespace Go.Mine
open Go.RowKit

theorem getF_zip {cs : List (List UInt8)} {ns : List Int} (hl : cs.length = ns.length) (h0 : 0 < cs.length) (hc : cs.all codeB = true) {t : List TNode} (hb : build [TNode.mt] (kvOf (cs.zip ns)) = some t) (T : List Bool) :
    getF t 0 0 T = getOf (kvOf (cs.zip ns)) T ∧ (kvOf (cs.zip ns)).Pairwise (fun a b => Apart a.1 b.1) := by
  rcases build_iff hl hc with ⟨h1, _⟩ | ⟨t', lab, h1, -, h2, h3⟩
  · rw [h1] at hb; cases hb
  · rw [h1] at hb
    injection hb with hb
    subst hb
    have hz : (cs.zip ns).length = cs.length := by rw [List.length_zip, ← hl, Nat.min_self]
    have hk : kvOf (cs.zip ns) ≠ [] := fun e => by
      have := congrArg List.length e
      rw [kvOf_length, hz, List.length_nil] at this
      omega
    have := getF_law h2 h3 hk T 0 [] h2.root (fun c hm hp => kvOf_ne hc c hm (List.prefix_nil.1 hp))
    rw [List.nil_append] at this
    exact ⟨this, h3⟩
theorem getOf_hit {kv : KV} (hp : kv.Pairwise (fun a b => Apart a.1 b.1)) {j : Nat} {c : List Bool} {n : Int} (hj : kv[j]? = some (c, n)) {T : List Bool} (hT : c <+: T) : getOf kv T = (n, (c.length : Int), 0) := by
  obtain ⟨lj, gj⟩ := List.getElem?_eq_some_iff.1 hj
  have hf : kv.find? (fun c => c.1.isPrefixOf T) = some (c, n) := by
    rw [List.find?_eq_some_iff_getElem]
    refine ⟨List.isPrefixOf_iff_prefix.2 hT, j, lj, gj, fun i hi => ?_⟩
    simp only [Bool.not_eq_true']
    rw [Bool.eq_false_iff]
    intro hy
    have h1 := List.isPrefixOf_iff_prefix.1 hy
    have h2 := List.pairwise_iff_getElem.1 hp i j (by omega) lj hi
    rw [gj] at h2
    rcases List.prefix_or_prefix_of_prefix h1 hT with h | h
    · exact h2.1 h
    · exact h2.2 h
  unfold getOf
  rw [hf]
theorem zip_get {cs : List (List UInt8)} {ns : List Int} {j : Nat} {s : List UInt8} {n : Int} (hs : cs[j]? = some s) (hn : ns[j]? = some n) : (cs.zip ns)[j]? = some (s, n) := by
  rw [List.getElem?_zip_eq_some]; exact ⟨hs, hn⟩
/-- What stands at a place is got. -/
theorem get_hit {cs : List (List UInt8)} {ns : List Int} (hl : cs.length = ns.length) (hc : cs.all codeB = true) {t : List TNode} (hb : build [TNode.mt] (kvOf (cs.zip ns)) = some t) {j : Nat} {s : List UInt8} {n : Int} (hs : cs[j]? = some s) (hn : ns[j]? = some n)
    {T : List Bool} (hT : bls s <+: T) : getF t 0 0 T = (n, (s.length : Int), 0) := by
  have h0 : 0 < cs.length := by have := (List.getElem?_eq_some_iff.1 hs).1; omega
  obtain ⟨h1, h2⟩ := getF_zip hl h0 hc hb T
  rw [h1]
  have := getOf_hit h2 (j := j) (c := bls s) (n := n) (by rw [kvOf, List.getElem?_map, zip_get hs hn]; rfl) hT
  rw [bls_length] at this
  exact this
/-- Each number's text. -/
theorem told_at {cs : List (List UInt8)} {ns : List Int} (hl : cs.length = ns.length) (hnd : ns.Nodup) {j : Nat} {s : List UInt8} {n : Int} (hs : cs[j]? = some s) (hn : ns[j]? = some n) : told (cs.zip ns) n = some (str s) := by
  have hz : (cs.zip ns).length = cs.length := by rw [List.length_zip, ← hl, Nat.min_self]
  obtain ⟨lj, gj⟩ := List.getElem?_eq_some_iff.1 hs
  obtain ⟨ln, gn⟩ := List.getElem?_eq_some_iff.1 hn
  have hd : ∀ i (hi : i < cs.length), (cs.zip ns).getD i ([], 0) = (cs[i]'hi, ns[i]'(by omega)) := fun i hi => by
    rw [List.getD_eq_getElem?_getD, List.getElem?_eq_getElem (by omega)]
    simp
  have := told_hit (zs := cs.zip ns) (x := n) (k := j) (by omega) (fun i hi => by
    rw [hd i (by omega), ← gn]
    intro e
    have := List.pairwise_iff_getElem.1 hnd i j (by omega) ln hi
    exact this e) (by rw [hd j lj]; exact gn)
  rw [hd j lj, gj] at this
  exact this
end Go.Mine
