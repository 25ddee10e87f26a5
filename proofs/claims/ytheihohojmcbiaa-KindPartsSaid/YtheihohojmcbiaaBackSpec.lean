/-
  Codes written one behind the other, and read. Plain.
-/
import Derived.Test.YtheihohojmcbiaaOneSpec
import Derived.Test.YtheihohojmcbiaaPenCode
namespace Go.Mine
open Go.RowKit

/-- A text's digits are its bits. -/
theorem digs_bls {s : List UInt8} (h : BinT s) {j : Nat} (hj : j < s.length) : decide ((digs s).getD j 0 = 1) = (bls s)[j]'(by rw [bls_length]; exact hj) := by
  have hc := h _ (List.getElem_mem hj)
  rw [List.getD_eq_getElem?_getD, List.getElem?_eq_getElem (by rw [digs_length]; exact hj)]
  simp only [digs, bls, List.getElem_map, Option.getD]
  rcases hc with hc | hc <;> rw [hc] <;> rfl
theorem bitsFrom_at {bs : List UInt8} {i j : Nat} (h : i + j < 8 * bs.length) : (bitsFrom bs i)[j]? = some (decide (bitAt bs (i + j) = 1)) := by
  rw [List.getElem?_eq_getElem (by rw [bitsFrom_length]; omega)]
  simp [bitsFrom]
/-- Where a code was written, it stands. -/
theorem pack_code {l1 l2 : List Nat} {s : List UInt8} (hs : BinT s) (hb : Bin (l1 ++ digs s ++ l2)) : (bls s) <+: bitsFrom (pack (l1 ++ digs s ++ l2)) l1.length := by
  rw [List.prefix_iff_eq_take, bls_length]
  apply List.ext_getElem?
  intro j
  have hL : (l1 ++ digs s ++ l2).length = l1.length + s.length + l2.length := by simp [digs_length, Nat.add_assoc]
  have hP : (pack (l1 ++ digs s ++ l2)).length = (l1.length + s.length + l2.length + 7) / 8 := by rw [pack_length, hL]
  by_cases hj : j < s.length
  · rw [List.getElem?_take_of_lt hj, bitsFrom_at (by rw [hP]; omega), List.getElem?_eq_getElem (by rw [bls_length]; exact hj), bitAt_pack hb _ (by rw [hL]; omega), ← digs_bls hs hj]
    congr 3
    rw [List.getD_eq_getElem?_getD, List.getD_eq_getElem?_getD, List.append_assoc, List.getElem?_append_right (by omega), List.getElem?_append_left (by rw [digs_length]; omega)]
    congr 2
    omega
  · rw [List.getElem?_eq_none (by rw [bls_length]; omega), List.getElem?_eq_none (by rw [List.length_take]; omega)]
/-- What is cut off within a code is a beginning of it. -/
theorem pack_cut {l1 l2 : List Nat} {s : List UInt8} (hs : BinT s) (hb : Bin (l1 ++ digs s ++ l2)) {e : Nat} (he : l1.length ≤ 8 * e) (he2 : 8 * e < l1.length + s.length) :
    bitsFrom ((pack (l1 ++ digs s ++ l2)).take e) l1.length <+: bls s ∧ (bitsFrom ((pack (l1 ++ digs s ++ l2)).take e) l1.length).length < s.length := by
  have hL : (l1 ++ digs s ++ l2).length = l1.length + s.length + l2.length := by simp [digs_length, Nat.add_assoc]
  have hP : (pack (l1 ++ digs s ++ l2)).length = (l1.length + s.length + l2.length + 7) / 8 := by rw [pack_length, hL]
  have hT : ((pack (l1 ++ digs s ++ l2)).take e).length = e := by rw [List.length_take, hP]; omega
  have hlen : (bitsFrom ((pack (l1 ++ digs s ++ l2)).take e) l1.length).length = 8 * e - l1.length := by rw [bitsFrom_length, hT]
  refine ⟨?_, by rw [hlen]; omega⟩
  rw [List.prefix_iff_eq_take, hlen]
  apply List.ext_getElem?
  intro j
  by_cases hj : j < 8 * e - l1.length
  · have hjs : j < s.length := by omega
    rw [List.getElem?_take_of_lt hj, bitsFrom_at (by rw [hT]; omega), List.getElem?_eq_getElem (by rw [bls_length]; exact hjs), ← digs_bls hs hjs]
    have h1 : bitAt ((pack (l1 ++ digs s ++ l2)).take e) (l1.length + j) = bitAt (pack (l1 ++ digs s ++ l2)) (l1.length + j) := by
      unfold bitAt shAt
      congr 3
      rw [List.getD_eq_getElem?_getD, List.getD_eq_getElem?_getD, List.getElem?_take_of_lt (by omega)]
    rw [h1, bitAt_pack hb _ (by rw [hL]; omega)]
    congr 3
    rw [List.getD_eq_getElem?_getD, List.getD_eq_getElem?_getD, List.append_assoc, List.getElem?_append_right (by omega), List.getElem?_append_left (by rw [digs_length]; omega)]
    congr 2
    omega
  · rw [List.getElem?_eq_none (by rw [hlen]; omega), List.getElem?_eq_none (by rw [List.length_take]; omega)]
section
variable {K : List (List UInt8)} {T : List Bool} {s : List UInt8}
/-- A true beginning of one of the codes is told to be one. -/
theorem getOf_part (hK : KeptOk K) {j : Nat} (hs : K[j]? = some s) (hp : T <+: bls s) (hl : T.length < s.length) : getOf (kvOf (K.zip (upTo K.length))) T = (0, 0, 5) := by
  have hf : (kvOf (K.zip (upTo K.length))).find? (fun c => c.1.isPrefixOf T) = none := by
    rw [List.find?_eq_none]
    intro c hc
    obtain ⟨i, u, hu, rfl⟩ := kv_mem hc
    simp only [Bool.not_eq_true]
    rw [Bool.eq_false_iff]
    intro hy
    have h1 := List.isPrefixOf_iff_prefix.1 hy
    have h2 := h1.trans hp
    have hij := kept_one (T := bls s) hK hu hs (List.isPrefixOf_iff_prefix.2 h2) (List.isPrefixOf_iff_prefix.2 (List.prefix_refl _))
    subst hij
    rw [hu] at hs
    injection hs with hs
    subst hs
    have := h1.length_le
    rw [bls_length] at this
    omega
  have hany : ((kvOf (K.zip (upTo K.length))).any fun c => T.isPrefixOf c.1) = true := by
    rw [List.any_eq_true]
    exact ⟨_, List.mem_of_getElem? (kv_get hs), List.isPrefixOf_iff_prefix.2 hp⟩
  unfold getOf
  rw [hf]
  simp only [hany]
  rfl
end
/-- What a list of choices writes. -/
def wrote (K : List (List UInt8)) (l : List Nat) : List Nat := l.flatMap fun n => digs (K.getD n [])
theorem wrote_take (K : List (List UInt8)) (l : List Nat) {k : Nat} (hk : k < l.length) : wrote K (l.take (k + 1)) = wrote K (l.take k) ++ digs (K.getD (l[k]'hk) []) := by
  unfold wrote
  rw [List.take_add_one, List.getElem?_eq_getElem hk]
  simp only [Option.toList, List.flatMap_append, List.flatMap_cons, List.flatMap_nil, List.append_nil]
theorem wrote_split (K : List (List UInt8)) (l : List Nat) {k : Nat} (hk : k < l.length) : wrote K l = wrote K (l.take k) ++ digs (K.getD (l[k]'hk) []) ++ wrote K (l.drop (k + 1)) := by
  rw [← wrote_take K l hk]
  unfold wrote
  rw [← List.flatMap_append, List.take_append_drop]
theorem wrote_length_le (K : List (List UInt8)) {m : Nat} (hK : ∀ s ∈ K, s.length ≤ m) : ∀ (l : List Nat), (wrote K l).length ≤ m * l.length
  | [] => by simp [wrote]
  | n :: l => by
    have ih := wrote_length_le K hK l
    have h1 : (digs (K.getD n [])).length ≤ m := by
      rw [digs_length, List.getD_eq_getElem?_getD]
      rcases h : K[n]? with _ | s
      · simp
      · exact hK _ (List.mem_of_getElem? h)
    have h2 : (wrote K (n :: l)).length = (digs (K.getD n [])).length + (wrote K l).length := by simp [wrote]
    rw [h2, List.length_cons, Nat.mul_succ]
    omega
/-- Which place a number picks. -/
def pickN (n : Nat) (x : Int) : Nat := (x % (n : Int)).toNat
theorem pickN_eq {n : Nat} (h : 0 < n) (x : Int) : x % (n : Int) = (pickN n x : Int) := by
  unfold pickN
  have := Int.emod_nonneg x (show (n : Int) ≠ 0 by omega)
  omega
theorem pickN_lt {n : Nat} (h : 0 < n) (x : Int) : pickN n x < n := by
  have h1 := Int.emod_lt_of_pos x (show (0 : Int) < (n : Int) by omega)
  have h2 := pickN_eq h x
  omega
end Go.Mine
