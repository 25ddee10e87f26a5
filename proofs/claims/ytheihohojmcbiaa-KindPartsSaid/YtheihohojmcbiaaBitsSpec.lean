/-
  Bits in plain Lean: what Find and Start answer, start codes, bits packed in bytes.
-/
import Derived.Test.YtheihohojmcbiaaSlice
namespace Go.Mine
open Go.RowKit

def byteCells (bs : List UInt8) : List Value := bs.map fun b => .int .u8 (b.toNat : Int)
theorem byteCells_get {bs : List UInt8} {i : Nat} (h : i < bs.length) : (byteCells bs)[i]? = some (.int .u8 ((bs[i]'h).toNat : Int)) := by simp [byteCells, List.getElem?_eq_getElem h]
theorem byteCells_length (bs : List UInt8) : (byteCells bs).length = bs.length := by simp [byteCells]
theorem byteCells_append (a b : List UInt8) : byteCells (a ++ b) = byteCells a ++ byteCells b := by simp [byteCells]
theorem byteCells_set (a : List UInt8) (i : Nat) (x : UInt8) : byteCells (a.set i x) = (byteCells a).set i (.int .u8 (x.toNat : Int)) := by simp [byteCells]
def shAt (bs : List UInt8) (i : Nat) : Nat := (bs.getD (i / 8) 0).toNat / 2 ^ (7 - i % 8)
/-- The bit of a place. -/
def bitAt (bs : List UInt8) (i : Nat) : Nat := shAt bs i % 2
theorem bitAt_lt (bs : List UInt8) (i : Nat) : bitAt bs i < 2 := Nat.mod_lt _ (by omega)
theorem shAt_lt (bs : List UInt8) (i : Nat) : shAt bs i < 256 := Nat.lt_of_le_of_lt (Nat.div_le_self _ _) (UInt8.toNat_lt _)

/-- What so many bits from a place on are as a number. -/
def numAt (bs : List UInt8) (i : Nat) : Nat → Nat
  | 0 => 0
  | n + 1 => 2 * numAt bs i n + bitAt bs (i + n)
theorem numAt_lt (bs : List UInt8) (i n : Nat) : numAt bs i n < 2 ^ n := by
  induction n with
  | zero => simp [numAt]
  | succ n ih =>
    have := bitAt_lt bs (i + n)
    simp only [numAt, Nat.pow_succ]
    omega


/-- A start code stands there. -/
def IsCode (bs : List UInt8) (i : Nat) : Prop := i + 16 ≤ 8 * bs.length ∧ (∀ j, j < 15 → bitAt bs (i + j) = 0) ∧ bitAt bs (i + 15) = 1

theorem numAt_zero (bs : List UInt8) (i n : Nat) : numAt bs i n = 0 ↔ ∀ j, j < n → bitAt bs (i + j) = 0 := by
  induction n with
  | zero => simp [numAt]
  | succ n ih =>
    rw [numAt]
    constructor
    · intro h j hj
      rcases Nat.lt_or_ge j n with h1 | h1
      · exact ih.1 (by omega) j h1
      · obtain rfl : j = n := by omega
        omega
    · intro h
      have h1 := ih.2 (fun j hj => h j (by omega))
      have h2 := h n (by omega)
      omega
theorem isCode_num (bs : List UInt8) (i : Nat) (h : i + 16 ≤ 8 * bs.length) : IsCode bs i ↔ numAt bs i 16 = 1 := by
  have hb := bitAt_lt bs (i + 15)
  have e : numAt bs i 16 = 2 * numAt bs i 15 + bitAt bs (i + 15) := rfl
  constructor
  · rintro ⟨_, h1, h2⟩
    rw [e, (numAt_zero bs i 15).2 h1, h2]
  · intro h1
    refine ⟨h, (numAt_zero bs i 15).1 (by omega), by omega⟩

def findF (bs : List UInt8) : Nat → Nat → Nat → Option Nat
  | _, _, 0 => none
  | i, run, n + 1 => if bitAt bs i = 0 then findF bs (i + 1) (run + 1) n else if 15 ≤ run then some (i - 15) else findF bs (i + 1) 0 n
def answer : Option Nat → Int × Int
  | some x => ((x : Int), 0)
  | none => (0, 5)
/-- What Find answers. -/
def findOf (bs : List UInt8) (i : Nat) : Int × Int := answer (findF bs i 0 (8 * bs.length - i))

theorem findF_some (bs : List UInt8) : ∀ (n i run x : Nat), run ≤ i → i + n = 8 * bs.length → (∀ j, i - run ≤ j → j < i → bitAt bs j = 0) → findF bs i run n = some x →
    i - run ≤ x ∧ IsCode bs x ∧ ∀ y, i - run ≤ y → y < x → ¬ IsCode bs y
  | 0, _, _, _, _, _, _, h => by simp [findF] at h
  | n + 1, i, run, x, hr, hn, hz, h => by
    rw [findF] at h
    by_cases hb : bitAt bs i = 0
    · rw [if_pos hb] at h
      have := findF_some bs n (i + 1) (run + 1) x (by omega) (by omega) (fun j h1 h2 => by
        rcases Nat.lt_or_ge j i with h3 | h3
        · exact hz j (by omega) h3
        · obtain rfl : j = i := by omega
          exact hb) h
      rw [show i + 1 - (run + 1) = i - run by omega] at this
      exact this
    · have hb1 : bitAt bs i = 1 := by have := bitAt_lt bs i; omega
      rw [if_neg hb] at h
      by_cases hrun : 15 ≤ run
      · rw [if_pos hrun] at h
        obtain rfl : i - 15 = x := by simpa using h
        refine ⟨by omega, ⟨by omega, fun j hj => hz _ (by omega) (by omega), by rw [show i - 15 + 15 = i by omega]; exact hb1⟩, fun y h1 h2 hc => ?_⟩
        have := hz (y + 15) (by omega) (by omega)
        rw [hc.2.2] at this
        omega
      · rw [if_neg hrun] at h
        obtain ⟨h1, h2, h3⟩ := findF_some bs n (i + 1) 0 x (by omega) (by omega) (fun j h1 h2 => by omega) h
        refine ⟨by omega, h2, fun y h4 h5 hc => ?_⟩
        rcases Nat.lt_or_ge i y with h6 | h6
        · exact h3 y (by omega) h5 hc
        · have := hc.2.1 (i - y) (by omega)
          rw [show y + (i - y) = i by omega] at this
          omega
theorem findF_none (bs : List UInt8) : ∀ (n i run : Nat), run ≤ i → i + n = 8 * bs.length → (∀ j, i - run ≤ j → j < i → bitAt bs j = 0) → findF bs i run n = none →
    ∀ y, i - run ≤ y → ¬ IsCode bs y
  | 0, i, run, hr, hn, hz, _ => fun y hy hc => by
    have h1 := hc.1
    have := hz (y + 15) (by omega) (by omega)
    rw [hc.2.2] at this
    omega
  | n + 1, i, run, hr, hn, hz, h => by
    rw [findF] at h
    by_cases hb : bitAt bs i = 0
    · rw [if_pos hb] at h
      have := findF_none bs n (i + 1) (run + 1) (by omega) (by omega) (fun j h1 h2 => by
        rcases Nat.lt_or_ge j i with h3 | h3
        · exact hz j (by omega) h3
        · obtain rfl : j = i := by omega
          exact hb) h
      rw [show i + 1 - (run + 1) = i - run by omega] at this
      exact this
    · have hb1 : bitAt bs i = 1 := by have := bitAt_lt bs i; omega
      rw [if_neg hb] at h
      by_cases hrun : 15 ≤ run
      · rw [if_pos hrun] at h; cases h
      · rw [if_neg hrun] at h
        have h3 := findF_none bs n (i + 1) 0 (by omega) (by omega) (fun j h1 h2 => by omega) h
        intro y h4 hc
        rcases Nat.lt_or_ge i y with h6 | h6
        · exact h3 y (by omega) hc
        · have := hc.2.1 (i - y) (by omega)
          rw [show y + (i - y) = i by omega] at this
          omega
theorem findF_run (bs : List UInt8) (n i run k : Nat) (hz : ∀ j, j < k → bitAt bs (i + j) = 0) (hk : k ≤ n) : findF bs i run n = findF bs (i + k) (run + k) (n - k) := by
  induction k generalizing i run n with
  | zero => simp
  | succ k ih =>
    obtain ⟨n, rfl⟩ : ∃ m, n = m + 1 := ⟨n - 1, by omega⟩
    rw [findF, if_pos (by simpa using hz 0 (by omega)), ih n (i + 1) (run + 1) (fun j hj => by have := hz (j + 1) (by omega); rwa [show i + 1 + j = i + (j + 1) by omega]) (by omega)]
    congr 1 <;> omega

/-- How many noughts from a place on. -/
def noughtsF (bs : List UInt8) : Nat → Nat → Nat
  | _, 0 => 0
  | i, n + 1 => if bitAt bs i = 0 then noughtsF bs (i + 1) n + 1 else 0
def noughts (bs : List UInt8) (i : Nat) : Nat := noughtsF bs i (8 * bs.length - i)
theorem noughtsF_is (bs : List UInt8) : ∀ (n i k : Nat), k ≤ n → (∀ j, j < k → bitAt bs (i + j) = 0) → (k < n → bitAt bs (i + k) ≠ 0) → noughtsF bs i n = k
  | 0, i, k, hk, _, _ => by simp [noughtsF]; omega
  | n + 1, i, 0, hk, _, h1 => by rw [noughtsF, if_neg (by simpa using h1 (by omega))]
  | n + 1, i, k + 1, hk, hz, h1 => by
    rw [noughtsF, if_pos (by simpa using hz 0 (by omega)), noughtsF_is bs n (i + 1) k (by omega) (fun j hj => by have := hz (j + 1) (by omega); rwa [show i + 1 + j = i + (j + 1) by omega])
      (fun h => by have := h1 (by omega); rwa [show i + 1 + k = i + (k + 1) by omega])]
theorem noughtsF_le (bs : List UInt8) : ∀ (n i : Nat), noughtsF bs i n ≤ n
  | 0, i => by simp [noughtsF]
  | n + 1, i => by have := noughtsF_le bs n (i + 1); rw [noughtsF]; split <;> omega
theorem noughtsF_zero (bs : List UInt8) : ∀ (n i j : Nat), j < noughtsF bs i n → bitAt bs (i + j) = 0
  | 0, i, j, h => by simp [noughtsF] at h
  | n + 1, i, j, h => by
    rw [noughtsF] at h
    split at h
    · rename_i h0
      cases j with
      | zero => exact h0
      | succ j => have := noughtsF_zero bs n (i + 1) j (by omega); rwa [show i + 1 + j = i + (j + 1) by omega] at this
    · omega
theorem noughtsF_one (bs : List UInt8) : ∀ (n i : Nat), noughtsF bs i n < n → bitAt bs (i + noughtsF bs i n) = 1
  | 0, i, h => by simp [noughtsF] at h
  | n + 1, i, h => by
    rw [noughtsF] at h ⊢
    by_cases h0 : bitAt bs i = 0
    · rw [if_pos h0] at h ⊢
      have := noughtsF_one bs n (i + 1) (by omega)
      rwa [show i + (noughtsF bs (i + 1) n + 1) = i + 1 + noughtsF bs (i + 1) n by omega]
    · rw [if_neg h0]
      have := bitAt_lt bs i
      rw [Nat.add_zero]
      omega

/-- What Start answers. -/
def startOf (bs : List UInt8) (i : Nat) : Int × Int × Int :=
  if 8 * bs.length ≤ i + noughts bs i then (0, 0, 5)
  else if noughts bs i < 15 then (0, 0, 7)
  else if i + noughts bs i + 5 ≤ 8 * bs.length then ((numAt bs (i + noughts bs i + 1) 4 : Int), (noughts bs i : Int) + 5, 0)
  else (0, 0, 5)

theorem noughts_is {bs : List UInt8} {i k : Nat} (hk : i + k < 8 * bs.length) (hz : ∀ j, j < k → bitAt bs (i + j) = 0) (h1 : bitAt bs (i + k) = 1) : noughts bs i = k :=
  noughtsF_is bs _ i k (by omega) hz (fun _ => by omega)
theorem startOf_none {bs : List UInt8} {i : Nat} (hz : ∀ j, j < 8 * bs.length - i → bitAt bs (i + j) = 0) : startOf bs i = (0, 0, 5) := by
  have h : noughts bs i = 8 * bs.length - i := noughtsF_is bs _ i _ (Nat.le_refl _) hz (fun h => absurd h (by omega))
  rw [startOf, if_pos (by omega)]
theorem startOf_code {bs : List UInt8} {i k : Nat} (hk : i + k < 8 * bs.length) (hz : ∀ j, j < k → bitAt bs (i + j) = 0) (h1 : bitAt bs (i + k) = 1) (h : k < 15) : startOf bs i = (0, 0, 7) := by
  have h := noughts_is hk hz h1
  rw [startOf, if_neg (by omega), if_pos (by omega)]
theorem startOf_ok {bs : List UInt8} {i k : Nat} (hz : ∀ j, j < k → bitAt bs (i + j) = 0) (h1 : bitAt bs (i + k) = 1) (h : 15 ≤ k) (hl : i + k + 5 ≤ 8 * bs.length) : startOf bs i = ((numAt bs (i + k + 1) 4 : Int), (k : Int) + 5, 0) := by
  have h := noughts_is (by omega) hz h1
  rw [startOf, if_neg (by omega), if_neg (by omega), if_pos (by omega), h]
theorem startOf_more {bs : List UInt8} {i k : Nat} (hk : i + k < 8 * bs.length) (hz : ∀ j, j < k → bitAt bs (i + j) = 0) (h1 : bitAt bs (i + k) = 1) (h : 15 ≤ k) (hl : 8 * bs.length < i + k + 5) : startOf bs i = (0, 0, 5) := by
  have h := noughts_is hk hz h1
  rw [startOf, if_neg (by omega), if_neg (by omega), if_neg (by omega)]

/-! ### Packing -/
def byteN (l : List Nat) (j : Nat) : Nat :=
  l.getD (8 * j) 0 * 128 + l.getD (8 * j + 1) 0 * 64 + l.getD (8 * j + 2) 0 * 32 + l.getD (8 * j + 3) 0 * 16 + l.getD (8 * j + 4) 0 * 8 + l.getD (8 * j + 5) 0 * 4 + l.getD (8 * j + 6) 0 * 2 + l.getD (8 * j + 7) 0
def pack (l : List Nat) : List UInt8 := (List.range ((l.length + 7) / 8)).map fun j => UInt8.ofNat (byteN l j)
def Bin (l : List Nat) : Prop := ∀ x ∈ l, x < 2
theorem Bin.getD {l : List Nat} (h : Bin l) (i : Nat) : l.getD i 0 < 2 := by
  rw [List.getD_eq_getElem?_getD]
  rcases hi : l[i]? with _ | x
  · simp
  · exact h x (List.mem_of_getElem? hi)
theorem Bin.append {l m : List Nat} (h : Bin l) (h' : Bin m) : Bin (l ++ m) := fun x hx => by
  rcases List.mem_append.1 hx with h1 | h1
  · exact h x h1
  · exact h' x h1
theorem Bin.nil : Bin [] := fun _ h => by simp at h
theorem Bin.one {x : Nat} (h : x < 2) : Bin [x] := fun y hy => by simp at hy; omega
theorem byteN_lt {l : List Nat} (h : Bin l) (j : Nat) : byteN l j < 256 := by
  unfold byteN
  have h0 := h.getD (8 * j); have h1 := h.getD (8 * j + 1); have h2 := h.getD (8 * j + 2); have h3 := h.getD (8 * j + 3)
  have h4 := h.getD (8 * j + 4); have h5 := h.getD (8 * j + 5); have h6 := h.getD (8 * j + 6); have h7 := h.getD (8 * j + 7)
  omega
theorem pack_length (l : List Nat) : (pack l).length = (l.length + 7) / 8 := by simp [pack]
theorem pack_get (l : List Nat) (j : Nat) (h : j < (l.length + 7) / 8) : (pack l)[j]? = some (UInt8.ofNat (byteN l j)) := by
  simp [pack, h]
theorem bitAt_pack {l : List Nat} (h : Bin l) (i : Nat) (hi : i < 8 * ((l.length + 7) / 8)) : bitAt (pack l) i = l.getD i 0 := by
  have hq : i / 8 < (l.length + 7) / 8 := by omega
  have hlt := byteN_lt h (i / 8)
  unfold bitAt shAt
  rw [List.getD_eq_getElem?_getD (l := pack l), pack_get l _ hq, Option.getD_some, UInt8.toNat_ofNat_of_lt' (by simpa using hlt)]
  unfold byteN
  have h0 := h.getD (8 * (i / 8)); have h1 := h.getD (8 * (i / 8) + 1); have h2 := h.getD (8 * (i / 8) + 2); have h3 := h.getD (8 * (i / 8) + 3)
  have h4 := h.getD (8 * (i / 8) + 4); have h5 := h.getD (8 * (i / 8) + 5); have h6 := h.getD (8 * (i / 8) + 6); have h7 := h.getD (8 * (i / 8) + 7)
  have hm : i % 8 < 8 := Nat.mod_lt _ (by omega)
  have he : i = 8 * (i / 8) + i % 8 := by omega
  generalize i / 8 = q at *
  generalize i % 8 = r at *
  subst he
  match r, hm with
  | 0, _ => simp only [Nat.sub_zero, Nat.add_zero]; omega
  | 1, _ => omega
  | 2, _ => omega
  | 3, _ => omega
  | 4, _ => omega
  | 5, _ => omega
  | 6, _ => omega
  | 7, _ => omega

theorem getD_snoc (l : List Nat) (x i : Nat) : (l ++ [x]).getD i 0 = if i = l.length then x else l.getD i 0 := by
  simp only [List.getD_eq_getElem?_getD, List.getElem?_append]
  split
  · rename_i h; rw [if_neg (by omega)]
  · rename_i h
    split
    · rename_i h1; subst h1; simp
    · rename_i h1
      rw [List.getElem?_eq_none (l := l) (by omega), List.getElem?_eq_none (by simp; omega)]
theorem byteN_snoc (l : List Nat) (x j : Nat) : byteN (l ++ [x]) j = byteN l j + if j = l.length / 8 then x * 2 ^ (7 - l.length % 8) else 0 := by
  have hz : ∀ i, l.length ≤ i → l.getD i 0 = 0 := fun i hi => by rw [List.getD_eq_getElem?_getD, List.getElem?_eq_none hi]; rfl
  have hl := hz l.length (Nat.le_refl _)
  unfold byteN
  simp only [getD_snoc]
  by_cases hj : j = l.length / 8
  · rw [if_pos hj]
    have hm : l.length % 8 < 8 := Nat.mod_lt _ (by omega)
    have he : l.length = 8 * j + l.length % 8 := by omega
    generalize l.length % 8 = r at *
    generalize l.length = n at *
    subst he
    match r, hm with
    | 0, _ => simp [show 8 * j + 1 ≠ 8 * j from by omega] at hl ⊢; simp [hl]; omega
    | 1, _ => simp at hl ⊢; simp [hl]; omega
    | 2, _ => simp at hl ⊢; simp [hl]; omega
    | 3, _ => simp at hl ⊢; simp [hl]; omega
    | 4, _ => simp at hl ⊢; simp [hl]; omega
    | 5, _ => simp at hl ⊢; simp [hl]; omega
    | 6, _ => simp at hl ⊢; simp [hl]; omega
    | 7, _ => simp at hl ⊢; simp [hl]
  · rw [if_neg hj]
    simp only [show (8 * j = l.length) = False from by simp; omega, show (8 * j + 1 = l.length) = False from by simp; omega, show (8 * j + 2 = l.length) = False from by simp; omega, show (8 * j + 3 = l.length) = False from by simp; omega,
      show (8 * j + 4 = l.length) = False from by simp; omega, show (8 * j + 5 = l.length) = False from by simp; omega, show (8 * j + 6 = l.length) = False from by simp; omega, show (8 * j + 7 = l.length) = False from by simp; omega, if_false]
    rfl
/-- A bit behind, where a byte begins. -/
theorem pack_snoc_new (l : List Nat) (x : Nat) (h : l.length % 8 = 0) : pack (l ++ [x]) = pack l ++ [UInt8.ofNat (x * 128)] := by
  apply List.ext_getElem?
  intro j
  have hlen : (pack l).length = l.length / 8 := by rw [pack_length]; omega
  rcases Nat.lt_trichotomy j (l.length / 8) with hj | hj | hj
  · rw [List.getElem?_append_left (by omega), pack_get _ _ (by simp; omega), pack_get _ _ (by omega), byteN_snoc, if_neg (by omega), Nat.add_zero]
  · rw [List.getElem?_append_right (by omega), hlen, pack_get _ _ (by simp; omega), byteN_snoc, if_pos hj, h]
    have h0 : byteN l j = 0 := by
      unfold byteN
      have hz : ∀ i, l.length ≤ i → l.getD i 0 = 0 := fun i hi => by rw [List.getD_eq_getElem?_getD, List.getElem?_eq_none hi]; rfl
      rw [hz _ (by omega), hz _ (by omega), hz _ (by omega), hz _ (by omega), hz _ (by omega), hz _ (by omega), hz _ (by omega), hz _ (by omega)]
    rw [h0, hj]
    simp
  · rw [List.getElem?_eq_none (by rw [pack_length]; simp; omega), List.getElem?_eq_none (by simp [hlen]; omega)]
/-- A bit behind, within a byte. -/
theorem pack_snoc_in (l : List Nat) (x : Nat) (h : l.length % 8 ≠ 0) : pack (l ++ [x]) = (pack l).set (l.length / 8) (UInt8.ofNat (byteN l (l.length / 8) + x * 2 ^ (7 - l.length % 8))) := by
  apply List.ext_getElem?
  intro j
  have hlen : (pack l).length = l.length / 8 + 1 := by rw [pack_length]; omega
  rcases Nat.lt_trichotomy j (l.length / 8) with hj | hj | hj
  · rw [List.getElem?_set_ne (by omega), pack_get _ _ (by simp; omega), pack_get _ _ (by omega), byteN_snoc, if_neg (by omega), Nat.add_zero]
  · subst hj
    rw [List.getElem?_set_self (by omega), pack_get _ _ (by simp; omega), byteN_snoc, if_pos rfl]
  · rw [List.getElem?_eq_none (by rw [pack_length]; simp; omega), List.getElem?_eq_none (by simp [hlen]; omega)]
theorem byteN_or {l : List Nat} (h : Bin l) (x : Nat) (hx : x < 2) : byteN l (l.length / 8) ||| (x * 2 ^ (7 - l.length % 8)) = byteN l (l.length / 8) + x * 2 ^ (7 - l.length % 8) := by
  have hz : ∀ i, l.length ≤ i → l.getD i 0 = 0 := fun i hi => by rw [List.getD_eq_getElem?_getD, List.getElem?_eq_none hi]; rfl
  have hm : l.length % 8 < 8 := Nat.mod_lt _ (by omega)
  have key : ∃ c, byteN l (l.length / 8) = 2 ^ (8 - l.length % 8) * c := by
    have he : l.length = 8 * (l.length / 8) + l.length % 8 := by omega
    unfold byteN
    generalize l.length / 8 = q at *
    generalize l.length % 8 = r at *
    generalize l.length = n at *
    subst he
    generalize h0 : l.getD (8 * q) 0 = a0
    generalize h1 : l.getD (8 * q + 1) 0 = a1
    generalize h2 : l.getD (8 * q + 2) 0 = a2
    generalize h3 : l.getD (8 * q + 3) 0 = a3
    generalize h4 : l.getD (8 * q + 4) 0 = a4
    generalize h5 : l.getD (8 * q + 5) 0 = a5
    generalize h6 : l.getD (8 * q + 6) 0 = a6
    generalize h7 : l.getD (8 * q + 7) 0 = a7
    match r, hm with
    | 0, _ =>
      rw [hz _ (by omega)] at h0 h1 h2 h3 h4 h5 h6 h7
      exact ⟨0, by omega⟩
    | 1, _ => exact ⟨a0, by rw [hz _ (by omega)] at h1 h2 h3 h4 h5 h6 h7; omega⟩
    | 2, _ => exact ⟨a0 * 2 + a1, by rw [hz _ (by omega)] at h2 h3 h4 h5 h6 h7; omega⟩
    | 3, _ => exact ⟨a0 * 4 + a1 * 2 + a2, by rw [hz _ (by omega)] at h3 h4 h5 h6 h7; omega⟩
    | 4, _ => exact ⟨a0 * 8 + a1 * 4 + a2 * 2 + a3, by rw [hz _ (by omega)] at h4 h5 h6 h7; omega⟩
    | 5, _ => exact ⟨a0 * 16 + a1 * 8 + a2 * 4 + a3 * 2 + a4, by rw [hz _ (by omega)] at h5 h6 h7; omega⟩
    | 6, _ => exact ⟨a0 * 32 + a1 * 16 + a2 * 8 + a3 * 4 + a4 * 2 + a5, by rw [hz _ (by omega)] at h6 h7; omega⟩
    | 7, _ => exact ⟨a0 * 64 + a1 * 32 + a2 * 16 + a3 * 8 + a4 * 4 + a5 * 2 + a6, by rw [hz _ (by omega)] at h7; omega⟩
  obtain ⟨c, hc⟩ := key
  have hlt : x * 2 ^ (7 - l.length % 8) < 2 ^ (8 - l.length % 8) := by
    rw [show 8 - l.length % 8 = (7 - l.length % 8) + 1 by omega, Nat.pow_succ, Nat.mul_comm x]
    exact Nat.mul_lt_mul_of_pos_left hx (Nat.two_pow_pos _)
  rw [hc, ← Nat.two_pow_add_eq_or_of_lt hlt c]
end Go.Mine
