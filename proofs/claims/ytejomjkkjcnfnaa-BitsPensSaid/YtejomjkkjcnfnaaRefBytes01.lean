/-
  The reference's pen: Bytes.
-/
import Derived.Test.YtejomjkkjcnfnaaRefPut01
namespace Go.Mine
open Go.RowKit
def packN (N : Nat) (l : List Nat) : List UInt8 := (List.range N).map fun j => UInt8.ofNat (byteN l j)
theorem packN_length (N : Nat) (l : List Nat) : (packN N l).length = N := by simp [packN]
theorem packN_get {N : Nat} {l : List Nat} {j : Nat} (h : j < N) : (packN N l)[j]? = some (UInt8.ofNat (byteN l j)) := by simp [packN, h]
theorem packN_pack (l : List Nat) : packN ((l.length + 7) / 8) l = pack l := rfl
theorem packN_nil (N : Nat) : packN N [] = List.replicate N 0 := by
  apply List.ext_getElem?
  intro j
  by_cases h : j < N
  · rw [packN_get h, List.getElem?_replicate, if_pos h]; rfl
  · rw [List.getElem?_eq_none (by rw [packN_length]; omega), List.getElem?_eq_none (by simp; omega)]
theorem packN_snoc (N : Nat) (l : List Nat) (x : Nat) (h : l.length / 8 < N) : packN N (l ++ [x]) = (packN N l).set (l.length / 8) (UInt8.ofNat (byteN l (l.length / 8) + x * 2 ^ (7 - l.length % 8))) := by
  apply List.ext_getElem?
  intro j
  by_cases hj : j < N
  · rw [packN_get hj, byteN_snoc]
    by_cases hq : j = l.length / 8
    · rw [if_pos hq, hq, List.getElem?_set_self (by rw [packN_length]; exact h)]
    · rw [if_neg hq, List.getElem?_set_ne (Ne.symm hq), packN_get hj, Nat.add_zero]
  · rw [List.getElem?_eq_none (by rw [packN_length]; omega), List.getElem?_eq_none (by rw [List.length_set, packN_length]; omega)]
theorem Rd.of_blk {w : World} {g : Nat} {t : TypeId} {cs : List Value} {n : Nat} (h : Blk w g t cs) (hn : cs.length = n) : Rd w 1 (.slice (some ⟨g, 0, none⟩) n n) n cs :=
  ⟨by omega, _, n, rfl, Nat.le_refl _, fun _ => ⟨g, 0, rfl, fun j u hu => by rw [Nat.zero_add]; exact h.cell hu⟩⟩
end Go.Mine
namespace Go.Proofs.Ytejomjkkjcnfnaa
open Go.RowKit Go.Mine

set_option maxRecDepth 100000 in
set_option maxHeartbeats 1000000 in
theorem RBytes_any (w : World) {base b : Nat} {v : Value} {l : List Nat} (h : RPen w base b v l) :
    Calls Try.prog 25 #[.pointer (some ⟨b, 0, none⟩)] w fun e w' => e = .returned (.slice (some ⟨w.heap.size, 0, none⟩) ((l.length + 7) / 8) ((l.length + 7) / 8)) ∧ Rd w' 1 (.slice (some ⟨w.heap.size, 0, none⟩) ((l.length + 7) / 8) ((l.length + 7) / 8)) (pack l).length (byteCells (pack l)) ∧ OnlyIn [] w w' := by
  obtain ⟨i0, hi0, hz0, hz1, hz2⟩ := info_parts Try.infoB
  obtain ⟨A, c, rfl, hc⟩ := h.sl.val
  have hsm := h.small
  obtain ⟨N, hN⟩ : ∃ N, (l.length + 7) / 8 = N := ⟨_, rfl⟩
  have hNi : ((l.length : Int) + 7) / 8 = (N : Int) := by omega
  have hNb : N ≤ 2097152 := by omega
  have hlN : l.length ≤ 8 * N := by omega
  have c0 := h.blk.cell (i := 0) rfl
  have hblk := h.blk
  have hsl := h.sl
  have hbin := h.bin
  have hb1 := h.blk.lt
  have hmk := run_make_n (P := Try.prog) 28 5 i0 (.int .u8 0) Try.underlying28 hi0 hz0 .i64 .i64 N (by rw [hz2]; omega) (by omega)
  have hmf : madeCells (Value.int .u8 0).cells (N * i0.size) = (byteCells (packN N [])).toArray := by
    rw [hz1, Nat.mul_one, packN_nil]
    apply Array.ext'
    apply List.ext_getElem?
    intro j
    simp only [madeCells, byteCells, Value.cells, List.map_replicate]
    rw [List.getElem?_replicate]
    by_cases hj : j < N
    · simp [hj, Nat.mod_one]
    · simp [hj]
  rw [hmf] at hmk
  clear hmf h
  rw [hN]
  have HN := Lib.hid hN
  clear hN
  go_enter Try.func25, Try.ntmps25
  go_wp2_with fail
  have hB0 := Blk.new w 5 (byteCells (packN N []))
  clear hNi
  generalize hg : w.heap.size = g at *
  have hgb : ¬ g = b := by omega
  have hgw : w.heap.size ≤ g := by omega
  go_loopw [4] (fun i wr => ∃ k : Nat, k ≤ l.length ∧ i = .int .i64 (k : Int) ∧ Blk wr g 5 (byteCells (packN N (l.take k))) ∧ OnlyIn [] w wr) (fun i _ => l.length - (intOf i).toNat)
  case atStart => exact ⟨0, by omega, rfl, by simpa using hB0, (OnlyIn.refl _ _).alloc _⟩
  case round =>
    obtain ⟨k, hk, rfl, hB, hto⟩ := hrel
    have hblk2 := hblk.only hto (by simp)
    have c0 := hblk2.cell (i := 0) rfl
    by_cases hlt : k < l.length
    · obtain ⟨ga, off, cap, hv, hga1, hga2, hga3⟩ := hsl.form (by omega)
      injection hv with hv _ hcc
      subst hv hcc
      obtain ⟨x, hx⟩ : ∃ x, l[k]'hlt = x := ⟨_, rfl⟩
      have hx2 : x < 2 := by rw [← hx]; exact hbin _ (List.getElem_mem hlt)
      have p0 : wr.cell? ⟨ga, off + k, none⟩ = some (.int .i64 (x : Int)) := by
        have := hto.cell (hsl.cell_at rfl (natCells_get hlt)) (by simp)
        rw [hx] at this; exact this
      have htk : l.take (k + 1) = l.take k ++ [x] := by rw [List.take_succ_eq_append_getElem hlt, hx]
      have hlk : (l.take k).length = k := by simp; omega
      have hbk : Bin (l.take k) := fun y hy => hbin y (List.mem_of_mem_take hy)
      have hsn := packN_snoc N (l.take k) x (by rw [hlk]; omega)
      have hor := byteN_or hbk x hx2
      have hlt1 := byteN_lt hbk (k / 8)
      rw [hlk] at hsn hor
      obtain ⟨q, hq⟩ : ∃ q, k / 8 = q := ⟨_, rfl⟩
      obtain ⟨r, hr⟩ : ∃ r, k % 8 = r := ⟨_, rfl⟩
      rw [hq] at hsn hor hlt1
      rw [hr] at hsn hor
      have hqN : q < N := by omega
      have q0 : wr.cell? ⟨g, q, none⟩ = some (.int .u8 ((byteN (l.take k) q : Nat) : Int)) := by
        have h1 := packN_get (N := N) (l := l.take k) hqN
        have h2 := hB.cell (byteCells_get (by rw [packN_length]; exact hqN : q < (packN N (l.take k)).length))
        rw [List.getElem?_eq_getElem (by rw [packN_length]; exact hqN)] at h1
        injection h1 with h1
        rw [h1, UInt8.toNat_ofNat_of_lt' (by simpa using hlt1)] at h2
        exact h2
      have e0 := hB.free q
      obtain ⟨o, ho⟩ : ∃ o, byteN (l.take k) q = o := ⟨_, rfl⟩
      rw [ho] at q0 hlt1 hsn hor
      have hr8 : r < 8 := by omega
      obtain ⟨s, hs⟩ : ∃ s, 7 - r = s := ⟨_, rfl⟩
      rw [hs] at hsn hor
      have hpow : 2 ^ s ≤ 2 ^ 7 := Nat.pow_le_pow_right (by omega) (by omega)
      obtain ⟨y, hy⟩ : ∃ y, x * 2 ^ s = y := ⟨_, rfl⟩
      have hy1 : y < 256 := by
        have h1 : x * 2 ^ s ≤ 1 * 2 ^ 7 := Nat.mul_le_mul (by omega) hpow
        omega
      rw [hy] at hsn hor
      have hdiv : (k : Int) / 8 = (q : Int) := by omega
      have hmod : (k : Int) % 8 = (r : Int) := by omega
      have htm : (k : Int).tmod 8 = (r : Int) := by rw [Int.tmod_eq_emod_of_nonneg (by omega)]; exact hmod
      have h70 : (7 : Int) - (r : Int) = (s : Int) := by omega
      have hs8 : (s : Int) ≤ 8 := by omega
      have hqi : (q : Int) < (N : Int) := by omega
      have hki : (k : Int) < (l.length : Int) := by omega
      have hxs : (x : Int) * 2 ^ s = (y : Int) := by rw [← hy]; push_cast; rfl
      have hoy : bits .or .u8 (o : Int) (y : Int) = ((o ||| y : Nat) : Int) := or_u8 _ _ hlt1 hy1
      have hoy256 : o ||| y < 256 := by have := Nat.or_lt_two_pow (n := 8) (by omega : o < 2 ^ 8) (by omega : y < 2 ^ 8); simpa using this
      have HH := Lib.hid (And.intro hB (And.intro hto (And.intro htk (And.intro hsn (And.intro hor hoy256)))))
      have hmeas : l.length - (k + 1) < l.length - k := by omega
      have hk1 : k + 1 ≤ l.length := by omega
      have hx8 : IntKind.u8.wrap (x : Int) = (x : Int) := by rw [IntKind.wrap_u8]; omega
      have hy8 : IntKind.u8.wrap (y : Int) = (y : Int) := by rw [IntKind.wrap_u8]; omega
      have hw1 : IntKind.i64.wrap (q : Int) = (q : Int) := by rw [IntKind.wrap_i64]; omega
      have hw2 : IntKind.i64.wrap (s : Int) = (s : Int) := by rw [IntKind.wrap_i64]; omega
      have hw3 : IntKind.u64.wrap (s : Int) = (s : Int) := by rw [IntKind.wrap_u64]; omega
      clear hB hto htk hsn hor hq hr hs hy hpow hx hlk hbk ho hoy256
      go_wp2_with fail
      (refine Go.Mine.wp_region_tail 23 (by kernel_rfl) (by kernel_rfl) ?_; simp only [List.take_succ_cons, List.take_zero, List.drop_succ_cons, List.drop_zero]; (repeat (refine Go.wpStill_step (fun K hK => ?_); go_simp; first | (refine hK _ ?_; clear hK K) | (apply Exists.intro; refine ⟨?_, hK _ ?_⟩; (fail); clear hK K))); refine Go.wpStill_nil ?_)
      go_wp2_with fail
      go_roundw
      case rel =>
        obtain ⟨hB, hto, htk, hsn, hor, hoy256⟩ := HH.out
        refine ⟨k + 1, hk1, by go_num, ?_, (hto.setCell (p := ⟨g, q, none⟩) (.inr hgw) _).drew⟩
        rw [htk, hsn, byteCells_set, ← hor, UInt8.toNat_ofNat_of_lt' (by simpa using hoy256)]
        exact (hB.set q _).drew
      case measure => simp [intOf]; exact hmeas
    · obtain rfl : k = l.length := by omega
      rw [List.take_of_length_le (Nat.le_refl _)] at hB
      have HB := Lib.hid (And.intro hB hto)
      clear hB hto
      go_wp2_with fail
      go_ret
      obtain ⟨hB, hto⟩ := HB.out
      rw [hg]
      refine ⟨rfl, ?_, hto⟩
      have hp : packN N l = pack l := by rw [← HN.out]; exact packN_pack l
      rw [hp] at hB
      have hpl : (pack l).length = N := by rw [pack_length]; exact HN.out
      have := Rd.of_blk hB (n := N) (by rw [byteCells_length]; exact hpl)
      rw [hpl]
      exact this
end Go.Proofs.Ytejomjkkjcnfnaa
