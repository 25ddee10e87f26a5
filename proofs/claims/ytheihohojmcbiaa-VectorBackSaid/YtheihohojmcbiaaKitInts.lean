/-
  Package praxinoscopekit: lists of numbers; Bits; CopyBytes.
-/
import Derived.Test.YtheihohojmcbiaaKitBytes
import Derived.Test.YtheihohojmcbiaaInts
import Derived.Test.YtheihohojmcbiaaPen
namespace Go.Mine
open Go.RowKit
/-- Is it odd? -/
def oddN (x : Int) : Nat := if x.tmod 2 = 0 then 0 else 1
theorem oddN_lt (x : Int) : oddN x < 2 := by unfold oddN; split <;> omega
def odds (l : List Int) : List Nat := l.map oddN
theorem odds_length (l : List Int) : (odds l).length = l.length := by simp [odds]
theorem odds_append (a b : List Int) : odds (a ++ b) = odds a ++ odds b := by simp [odds]
theorem odds_bin (l : List Int) : Bin (odds l) := fun x hx => by
  obtain ⟨y, -, rfl⟩ := List.mem_map.1 hx
  exact oddN_lt y
theorem odds_nat (l : List Nat) (h : Bin l) : odds (l.map fun (x : Nat) => (x : Int)) = l := by
  induction l with
  | nil => rfl
  | cons a l ih =>
    have h1 := ih (fun x hx => h x (List.mem_cons_of_mem _ hx))
    have h2 := h a (List.mem_cons_self ..)
    rw [odds] at h1 ⊢
    rw [List.map_cons, List.map_cons, h1]
    congr 1
    rcases (by omega : a = 0 ∨ a = 1) with rfl | rfl <;> rfl
/-- So many bytes, filled with bits. -/
def packM (N : Nat) (l : List Nat) : List UInt8 := (List.range N).map fun j => UInt8.ofNat (byteN l j)
theorem packM_length (N : Nat) (l : List Nat) : (packM N l).length = N := by simp [packM]
theorem packM_get {N : Nat} {l : List Nat} {j : Nat} (h : j < N) : (packM N l)[j]? = some (UInt8.ofNat (byteN l j)) := by simp [packM, h]
theorem packM_nil (N : Nat) : packM N [] = List.replicate N 0 := by
  apply List.ext_getElem?
  intro j
  by_cases h : j < N
  · rw [packM_get h, List.getElem?_replicate, if_pos h]; rfl
  · rw [List.getElem?_eq_none (by rw [packM_length]; omega), List.getElem?_eq_none (by simp; omega)]
theorem packM_snoc (N : Nat) (l : List Nat) (x : Nat) (h : l.length / 8 < N) : packM N (l ++ [x]) = (packM N l).set (l.length / 8) (UInt8.ofNat (byteN l (l.length / 8) + x * 2 ^ (7 - l.length % 8))) := by
  apply List.ext_getElem?
  intro j
  by_cases hj : j < N
  · rw [packM_get hj, byteN_snoc]
    by_cases hq : j = l.length / 8
    · rw [if_pos hq, hq, List.getElem?_set_self (by rw [packM_length]; exact h)]
    · rw [if_neg hq, List.getElem?_set_ne (Ne.symm hq), packM_get hj, Nat.add_zero]
  · rw [List.getElem?_eq_none (by rw [packM_length]; omega), List.getElem?_eq_none (by rw [List.length_set, packM_length]; omega)]
theorem packM_zero (N : Nat) (l : List Nat) : packM N (l ++ [0]) = packM N l := by
  apply List.ext_getElem?
  intro j
  by_cases hj : j < N
  · rw [packM_get hj, packM_get hj, byteN_snoc]; simp
  · rw [List.getElem?_eq_none (by rw [packM_length]; omega), List.getElem?_eq_none (by rw [packM_length]; omega)]
theorem Sl.of_blk {w : World} {g base : Nat} {t : TypeId} {cs : List Value} {n : Nat} (h : Blk w g t cs) (hn : cs.length = n) (hb : base ≤ g) (hm : n ≤ maxLen) : Sl w base t 1 (.slice (some ⟨g, 0, none⟩) n n) n cs := by
  refine ⟨by omega, .inr ⟨g, 0, n, cs.toArray, rfl, hb, h, Nat.le_refl _, hm, by simp; omega, fun j hj => by simp⟩⟩
end Go.Mine
namespace Go.Proofs.Ytheihohojmcbiaa
open Go.RowKit Go.Mine

set_option maxRecDepth 100000 in
theorem Try.infoI : (Try.prog.info? 3).map (fun i => (i.zero, i.size, i.bytes)) = some (some (.int .i64 0), 1, 8) := by kernel_rfl

set_option maxRecDepth 100000 in
set_option maxHeartbeats 1000000 in
theorem Bits_any (w : World) (v : Value) (l : List Int) (h : Rd w 1 v l.length (intCells l)) (hl : l.length ≤ 1000000000) (hx : ∀ x ∈ l, -9223372036854775808 ≤ x ∧ x ≤ 9223372036854775807) :
    Calls Try.prog 66 #[v] w fun e w' => ∃ u, e = .returned u ∧ Sl w' w.heap.size 5 1 u (pack (odds l)).length (byteCells (pack (odds l))) ∧ OnlyIn [] w w' := by
  obtain ⟨i0, hi0, hz0, hz1, hz2⟩ := info_parts Try.infoB
  have h' := h
  obtain ⟨-, A, c, rfl, hc, -⟩ := h'
  obtain ⟨N, hN⟩ : ∃ N, (l.length + 7) / 8 = N := ⟨_, rfl⟩
  have hNi : ((l.length : Int) + 7).tdiv 8 = (N : Int) := by rw [Int.tdiv_eq_ediv_of_nonneg (by omega)]; omega
  have hNi2 : ((l.length : Int) + 7) / 8 = (N : Int) := by omega
  have hNb : N ≤ 125000000 := by omega
  have hlN : l.length ≤ 8 * N := by omega
  have hmk := run_make_n (P := Try.prog) 22 5 i0 (.int .u8 0) Try.underlying22 hi0 hz0 .i64 .i64 N (by rw [hz2]; omega) (by omega)
  have hmf : madeCells (Value.int .u8 0).cells (N * i0.size) = (byteCells (packM N [])).toArray := by
    rw [hz1, Nat.mul_one, packM_nil]
    apply Array.ext'
    apply List.ext_getElem?
    intro j
    simp only [madeCells, byteCells, Value.cells, List.map_replicate]
    rw [List.getElem?_replicate]
    by_cases hj : j < N
    · simp [hj, Nat.mod_one]
    · simp [hj]
  rw [hmf] at hmk
  clear hmf
  have HN := Lib.hid hN
  have HX := Lib.hid hx
  clear hN hx
  go_enter Try.func66, Try.ntmps66
  go_wp2_with fail
  have hB0 := Blk.new w 5 (byteCells (packM N []))
  clear hNi
  generalize hg : w.heap.size = g at *
  have hgw : w.heap.size ≤ g := by omega
  go_loopw [4] (fun i wr => ∃ k : Nat, k ≤ l.length ∧ i = .int .i64 (k : Int) ∧ Blk wr g 5 (byteCells (packM N (odds (l.take k)))) ∧ OnlyIn [] w wr) (fun i _ => l.length - (intOf i).toNat)
  case atStart => exact ⟨0, by omega, rfl, by simpa [odds] using hB0, (OnlyIn.refl _ _).alloc _⟩
  case round =>
    obtain ⟨k, hk, rfl, hB, hto⟩ := hrel
    by_cases hlt : k < l.length
    · have hr2 := h.cells (w' := wr) fun p u hp => hto.cell hp (by simp)
      obtain ⟨-, A', c', hv, hcc, hA⟩ := hr2
      obtain ⟨ga, off, rfl, hg4⟩ := hA (by omega)
      injection hv with hv _ hc2
      subst hv hc2
      have p0 := hg4 k _ (intCells_get hlt)
      obtain ⟨x, hx⟩ : ∃ x, l[k]'hlt = x := ⟨_, rfl⟩
      have hxb := HX.out _ (List.getElem_mem hlt)
      rw [hx] at p0 hxb
      have htk : odds (l.take (k + 1)) = odds (l.take k) ++ [oddN x] := by rw [List.take_succ_eq_append_getElem hlt, odds_append, hx]; rfl
      have hlk : (odds (l.take k)).length = k := by rw [odds_length]; simp; omega
      have hbk : Bin (odds (l.take k)) := odds_bin _
      have hki : (k : Int) < (l.length : Int) := by omega
      have hmeas : l.length - (k + 1) < l.length - k := by omega
      have hk1 : k + 1 ≤ l.length := by omega
      generalize odds (l.take k) = m at hB htk hlk hbk
      clear hg4 hA hcc
      by_cases h0 : x.tmod 2 = 0
      · have hd : (x.tmod 2 == 0) = true := by simp [h0]
        have hb : packM N (odds (l.take (k + 1))) = packM N m := by rw [htk, show oddN x = 0 from by simp [oddN, h0], packM_zero]
        rw [← hb] at hB
        have HH := Lib.hid (And.intro hB hto)
        clear hB hto htk hb hx hlk hbk
        go_wp2_with fail
        go_roundw
        case rel => exact ⟨k + 1, hk1, by go_num, HH.out.1, HH.out.2⟩
        case measure => simp [intOf]; exact hmeas
      · have hd : (x.tmod 2 == 0) = false := by simp [h0]
        have hone : oddN x = 1 := by simp [oddN, h0]
        rw [hone] at htk
        have hsn := packM_snoc N m 1 (by rw [hlk]; omega)
        have hor := byteN_or hbk 1 (by omega)
        have hlt1 := byteN_lt hbk (k / 8)
        rw [hlk] at hsn hor
        obtain ⟨q, hq⟩ : ∃ q, k / 8 = q := ⟨_, rfl⟩
        obtain ⟨r, hr⟩ : ∃ r, k % 8 = r := ⟨_, rfl⟩
        rw [hq] at hsn hor hlt1
        rw [hr] at hsn hor
        have hqN : q < N := by omega
        have q0 : wr.cell? ⟨g, q, none⟩ = some (.int .u8 ((byteN m q : Nat) : Int)) := by
          have h1 := packM_get (N := N) (l := m) hqN
          have h2 := hB.cell (byteCells_get (by rw [packM_length]; exact hqN : q < (packM N m).length))
          rw [List.getElem?_eq_getElem (by rw [packM_length]; exact hqN)] at h1
          injection h1 with h1
          rw [h1, UInt8.toNat_ofNat_of_lt' (by simpa using hlt1)] at h2
          exact h2
        have e0 := hB.free q
        obtain ⟨o, ho⟩ : ∃ o, byteN m q = o := ⟨_, rfl⟩
        rw [ho] at q0 hlt1 hsn hor
        have hr8 : r < 8 := by omega
        obtain ⟨s, hs⟩ : ∃ s, 7 - r = s := ⟨_, rfl⟩
        rw [hs, Nat.one_mul] at hsn hor
        have hpow : 2 ^ s ≤ 2 ^ 7 := Nat.pow_le_pow_right (by omega) (by omega)
        obtain ⟨y, hy⟩ : ∃ y, 2 ^ s = y := ⟨_, rfl⟩
        have hy1 : y < 256 := by omega
        rw [hy] at hsn hor
        have hdiv : (k : Int) / 8 = (q : Int) := by omega
        have hmod : (k : Int) % 8 = (r : Int) := by omega
        have htm : (k : Int).tmod 8 = (r : Int) := by rw [Int.tmod_eq_emod_of_nonneg (by omega)]; exact hmod
        have htd : (k : Int).tdiv 8 = (q : Int) := by rw [Int.tdiv_eq_ediv_of_nonneg (by omega)]; exact hdiv
        have hqi : (q : Int) < (N : Int) := by omega
        have hsh : (128 : Int) / 2 ^ r = (y : Int) := by
          rw [← hy, ← hs]
          rcases (by omega : r = 0 ∨ r = 1 ∨ r = 2 ∨ r = 3 ∨ r = 4 ∨ r = 5 ∨ r = 6 ∨ r = 7) with rfl | rfl | rfl | rfl | rfl | rfl | rfl | rfl <;> decide
        have hoy : bits .or .u8 (o : Int) (y : Int) = ((o ||| y : Nat) : Int) := or_u8 _ _ hlt1 hy1
        have hoy256 : o ||| y < 256 := by have := Nat.or_lt_two_pow (n := 8) (by omega : o < 2 ^ 8) (by omega : y < 2 ^ 8); simpa using this
        have HH := Lib.hid (And.intro hB (And.intro hto (And.intro htk (And.intro hsn (And.intro hor hoy256)))))
        have hw1 : IntKind.i64.wrap (q : Int) = (q : Int) := by rw [IntKind.wrap_i64]; omega
        have hw3 : IntKind.u64.wrap (r : Int) = (r : Int) := by rw [IntKind.wrap_u64]; omega
        have hr64 : (r : Int) < 64 := by omega
        have hy8 : IntKind.u8.wrap (y : Int) = (y : Int) := by rw [IntKind.wrap_u8]; omega
        clear hB hto htk hsn hor hq hr hs hy hpow hx hlk hbk ho hoy256 hone
        go_wp2_with fail
        go_roundw
        case rel =>
          obtain ⟨hB, hto, htk, hsn, hor, hoy256⟩ := HH.out
          refine ⟨k + 1, hk1, by go_num, ?_, (hto.setCell (p := ⟨g, q, none⟩) (.inr hgw) _)⟩
          rw [htk, hsn, byteCells_set, ← hor, UInt8.toNat_ofNat_of_lt' (by simpa using hoy256)]
          exact (hB.set q _)
        case measure => simp [intOf]; exact hmeas
    · obtain rfl : k = l.length := by omega
      rw [List.take_of_length_le (Nat.le_refl _)] at hB
      have HB := Lib.hid (And.intro hB hto)
      clear hB hto
      go_wp2_with fail
      go_ret
      obtain ⟨hB, hto⟩ := HB.out
      have hp : packM N (odds l) = pack (odds l) := by rw [← HN.out, ← odds_length]; rfl
      rw [hp] at hB
      have hpl : (pack (odds l)).length = N := by rw [pack_length, odds_length]; exact HN.out
      refine ⟨_, rfl, ?_, hto⟩
      rw [hpl]
      exact Sl.of_blk hB (by rw [byteCells_length]; exact hpl) (Nat.le_of_eq hg) (by simp only [maxLen]; omega)

end Go.Proofs.Ytheihohojmcbiaa
