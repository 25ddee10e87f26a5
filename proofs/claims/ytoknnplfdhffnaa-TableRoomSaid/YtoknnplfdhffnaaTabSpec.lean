/-
  Tables of sessions: which are live. Plain, and how they lie in memory.
-/
import Derived.Test.YtoknnplfdhffnaaMapInt
import Derived.Test.YtoknnplfdhffnaaInts
import Derived.Test.YtoknnplfdhffnaaSlice
namespace Go.Mine
open Go.RowKit Go.Maps

/-- The live ones among the first k. -/
def liveTo (cs : List Int) : Nat → List Int
  | 0 => []
  | k + 1 => liveTo cs k ++ (if cs.getD k 0 = 0 then [((k : Int) + 1)] else [])
def liveOf (cs : List Int) : List Int := liveTo cs cs.length
theorem liveTo_le (cs : List Int) : ∀ k, (liveTo cs k).length ≤ k
  | 0 => by simp [liveTo]
  | k + 1 => by
    have ih := liveTo_le cs k
    rw [liveTo, List.length_append]
    split <;> simp <;> omega
theorem liveTo_yes {cs : List Int} {k : Nat} (h : cs.getD k 0 = 0) : liveTo cs (k + 1) = liveTo cs k ++ [((k : Int) + 1)] := by rw [liveTo, if_pos h]
theorem liveTo_no {cs : List Int} {k : Nat} (h : cs.getD k 0 ≠ 0) : liveTo cs (k + 1) = liveTo cs k := by rw [liveTo, if_neg h, List.append_nil]
theorem liveTo_append (cs ds : List Int) : ∀ k, k ≤ cs.length → liveTo (cs ++ ds) k = liveTo cs k
  | 0, _ => rfl
  | k + 1, h => by
    rw [liveTo, liveTo, liveTo_append cs ds k (by omega)]
    have : (cs ++ ds).getD k 0 = cs.getD k 0 := by rw [List.getD_eq_getElem?_getD, List.getD_eq_getElem?_getD, List.getElem?_append_left (by omega)]
    rw [this]
theorem liveOf_le (cs : List Int) : (liveOf cs).length ≤ cs.length := liveTo_le cs _
theorem liveOf_more (cs : List Int) : liveOf (cs ++ [0]) = liveOf cs ++ [((cs.length : Int) + 1)] := by
  unfold liveOf
  rw [List.length_append, List.length_singleton, liveTo_yes (by simp), liveTo_append cs [0] cs.length (Nat.le_refl _)]
/-- What a table tells of a number. -/
def causeOf (cs : List Int) (x : Int) : Option Int := if 1 ≤ x ∧ x ≤ cs.length then some (cs.getD (x - 1).toNat 0) else none
theorem causeOf_in {cs : List Int} {k : Nat} (h : k < cs.length) : causeOf cs ((k : Int) + 1) = some (cs.getD k 0) := by
  unfold causeOf
  rw [if_pos (by omega)]
  congr 2
  omega
theorem causeOf_more (cs : List Int) : tellI (causeOf cs) ((cs.length : Int) + 1) 0 = causeOf (cs ++ [0]) := by
  funext x
  unfold tellI causeOf
  simp only [List.length_append, List.length_singleton]
  by_cases h : x = (cs.length : Int) + 1
  · rw [if_pos h, if_pos (by omega)]
    subst h
    rw [show ((cs.length : Int) + 1 - 1).toNat = cs.length by omega]
    simp
  · rw [if_neg h]
    by_cases h1 : 1 ≤ x ∧ x ≤ cs.length
    · rw [if_pos h1, if_pos (by omega)]
      rw [List.getD_eq_getElem?_getD, List.getD_eq_getElem?_getD, List.getElem?_append_left (by omega)]
    · rw [if_neg h1, if_neg (by omega)]
theorem causeOf_set {cs : List Int} {x c : Int} (h : 1 ≤ x ∧ x ≤ cs.length) : tellI (causeOf cs) x c = causeOf (cs.set (x - 1).toNat c) := by
  funext y
  unfold tellI causeOf
  simp only [List.length_set]
  by_cases hy : y = x
  · subst hy
    rw [if_pos rfl, if_pos h, List.getD_eq_getElem?_getD, List.getElem?_set_self (by omega)]
    rfl
  · rw [if_neg hy]
    by_cases h1 : 1 ≤ y ∧ y ≤ cs.length
    · rw [if_pos h1, if_pos h1, List.getD_eq_getElem?_getD, List.getD_eq_getElem?_getD, List.getElem?_set_ne (by omega)]
    · rw [if_neg h1, if_neg h1]
/-- 1, 2, .. -/
def from1 (n : Nat) : List Int := (List.range n).map fun (j : Nat) => (j : Int) + 1
theorem from1_length (n : Nat) : (from1 n).length = n := by simp [from1]
theorem from1_get {n j : Nat} (h : j < n) : (from1 n)[j]? = some ((j : Int) + 1) := by simp [from1, h]
theorem from1_mem (n : Nat) (x : Int) : x ∈ from1 n ↔ 1 ≤ x ∧ x ≤ n := by
  simp only [from1, List.mem_map, List.mem_range]
  constructor
  · rintro ⟨j, hj, rfl⟩; omega
  · rintro ⟨h1, h2⟩; exact ⟨(x - 1).toNat, by omega, by omega⟩
theorem from1_pairwise (n : Nat) : (from1 n).Pairwise (· < ·) := by
  unfold from1
  rw [List.pairwise_map]
  exact List.pairwise_lt_range.imp fun h => by omega
theorem from1_nodup (n : Nat) : (from1 n).Nodup := (from1_pairwise n).imp fun h => Int.ne_of_lt h
theorem from1_sorted (n : Nat) {ss : List Int} (h : ss.Perm (from1 n)) : ss.mergeSort leI = from1 n := by
  rw [mergeSort_of_perm_i h]
  exact List.mergeSort_of_pairwise ((from1_pairwise n).imp fun h => by simp [leI]; omega)

/-- A table in block b: room for N, its causes cs; its map in block mb, into which at most n were ever laid. -/
structure TabAt (P : Program) (K TAB : TypeId) (w : World) (b mb n N : Nat) (cs : List Int) : Prop where
  blk : Blk w b TAB [.int .i64 (N : Int), .int .i64 (cs.length : Int), .map (some mb)]
  map : MapI P K w mb n (causeOf cs)
  pos : 0 < N
  top : N ≤ 64
  small : cs.length ≤ 100000
  sn : n ≤ 100000
section
variable {P : Program} {K TAB : TypeId} {w w' : World} {b mb n N : Nat} {cs : List Int} {S : List Nat}
theorem TabAt.ne_ (h : TabAt P K TAB w b mb n N cs) : mb ≠ b := h.map.ne_blk h.blk
theorem TabAt.only (h : TabAt P K TAB w b mb n N cs) (ht : OnlyIn S w w') (hb : b ∉ S) (hm : mb ∉ S) : TabAt P K TAB w' b mb n N cs :=
  ⟨h.blk.only ht hb, h.map.only ht hm, h.pos, h.top, h.small, h.sn⟩
theorem TabAt.only0 (h : TabAt P K TAB w b mb n N cs) (ht : OnlyIn [] w w') : TabAt P K TAB w' b mb n N cs := h.only ht (by simp) (by simp)
theorem TabAt.drewN (h : TabAt P K TAB w b mb n N cs) (k : Nat) : TabAt P K TAB (w.drewN k) b mb n N cs := h.only0 ((OnlyIn.refl _ _).drewN k)
theorem TabAt.drew (h : TabAt P K TAB w b mb n N cs) : TabAt P K TAB w.drew b mb n N cs := h.only0 (OnlyIn.refl _ _).drew
theorem TabAt.alloc (h : TabAt P K TAB w b mb n N cs) (o : Obj) : TabAt P K TAB (w.alloc o) b mb n N cs := h.only0 ((OnlyIn.refl _ _).alloc o)
theorem TabAt.keys (h : TabAt P K TAB w b mb n N cs) (hK : P.underlying K = some (.int .i64)) : ∃ D, w.ownsMap P K oneR mb n D ∧ (from1 cs.length).Perm (intKeys D) ∧ Maps.size D ≤ n := by
  have hs := h.small
  refine h.map.keys hK (from1 cs.length) (from1_nodup _) (fun x hx => ?_) (fun x hx => ?_)
  · rw [from1_mem] at hx; omega
  · rw [from1_mem]
    unfold causeOf
    split <;> simp_all
end
end Go.Mine
