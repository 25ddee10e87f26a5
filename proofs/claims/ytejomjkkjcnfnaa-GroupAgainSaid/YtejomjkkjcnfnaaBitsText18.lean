/-
  Law 18: bits, bytes.
-/
import Derived.Test.YtejomjkkjcnfnaaKitInts
import Derived.Test.YtejomjkkjcnfnaaPenCode
import Derived.Test.YtejomjkkjcnfnaaLaw18
import Derived.Test.YtejomjkkjcnfnaaGroupLaw
namespace Go.Mine
open Go.RowKit
theorem txt_get {l : List Nat} (hb : Bin l) {k : Nat} (hk : k < l.length) (hk2 : k < (txt l).length) : ((txt l)[k]'hk2).toNat = 48 + l[k]'hk := by
  have h := hb _ (List.getElem_mem hk)
  simp only [txt, List.getElem_map]
  rw [UInt8.toNat_ofNat_of_lt' (show 48 + l[k] < 2 ^ 8 by omega)]
theorem replicate_cells (k : Nat) : intCells (List.replicate k 0) = List.replicate k (Value.int .i64 0) := by simp [intCells]
theorem odds_zeros (k : Nat) : odds (List.replicate k 0) = List.replicate k 0 := by simp [odds]; exact .inr rfl
end Go.Mine
namespace Go.Proofs.Ytejomjkkjcnfnaa
open Go.RowKit Go.Mine

set_option maxRecDepth 100000 in
theorem bits18_any (w : World) (l : List Nat) (hb : Bin l) (hl : l.length ≤ 1000000) :
    Calls Try.prog 44 #[.string (str (txt l))] w fun e w' => e = .returned (.bool true) ∧ w = w' := by
  have hsz : (str (txt l)).size = l.length := by rw [str_size, txt_length]
  go_enter Try.func44, Try.ntmps44
  go_wp2_with fail
  go_loopw [3] (fun i wr => ∃ k : Nat, k ≤ l.length ∧ i = .int .i64 (k : Int) ∧ w = wr) (fun i _ => l.length - (intOf i).toNat)
  case atStart => exact ⟨0, by omega, rfl, rfl⟩
  case round =>
    obtain ⟨k, hk, rfl, rfl⟩ := hrel
    by_cases hlt : k < l.length
    · have hjs : k < (str (txt l)).size := by omega
      have hkt : k < (txt l).length := by rw [txt_length]; exact hlt
      have hget := str_get hjs hkt
      have hz := txt_get hb hlt hkt
      have hx := hb _ (List.getElem_mem hlt)
      have hmeas : l.length - (k + 1) < l.length - k := by omega
      have hk1 : k + 1 ≤ l.length := by omega
      rcases (by omega : l[k]'hlt = 0 ∨ l[k]'hlt = 1) with h0 | h0
      · have hv : (((str (txt l))[k]'hjs).toNat : Int) = 48 := by rw [hget, hz, h0]; rfl
        clear hget hz hx h0 hb
        go_wp2_with fail
        go_roundw
        case rel => exact ⟨k + 1, hk1, by go_num, by first | rfl | trivial⟩
        case measure => simp [intOf]; exact hmeas
      · have hv : (((str (txt l))[k]'hjs).toNat : Int) = 49 := by rw [hget, hz, h0]; rfl
        clear hget hz hx h0 hb
        go_wp2_with fail
        go_roundw
        case rel => exact ⟨k + 1, hk1, by go_num, by first | rfl | trivial⟩
        case measure => simp [intOf]; exact hmeas
    · obtain rfl : k = l.length := by omega
      go_wp2_with fail
      go_ret
      exact ⟨rfl, rfl⟩

set_option maxRecDepth 100000 in
set_option maxHeartbeats 1000000 in
theorem bytes18_any (w : World) (n : Nat) (l : List Nat) (hb : Bin l) (hn : n ≤ 1000) (hl : l.length ≤ 1000000) (v : Value) (bh : List Int) (hr : Rd w 1 v bh.length (intCells bh)) (hx : ∀ x ∈ bh, -9223372036854775808 ≤ x ∧ x ≤ 9223372036854775807) (hbl : bh.length ≤ 1000) :
    Calls Try.prog 47 #[.int .i64 (n : Int), .string (str (txt l)), v] w fun e w' => ∃ u, e = .returned u ∧ Rd w' 1 u (pack (List.replicate n 0 ++ l ++ odds bh)).length (byteCells (pack (List.replicate n 0 ++ l ++ odds bh))) ∧ OnlyIn [] w w' := by
  obtain ⟨i0, hi0, hz0, hz1, hz2⟩ := info_parts Try.infoI
  have hsz : (str (txt l)).size = l.length := by rw [str_size, txt_length]
  have hmk := run_make_n (P := Try.prog) 40 3 i0 (.int .i64 0) Try.underlying40 hi0 hz0 .i64 .i64 n (by rw [hz2]; omega) (by omega)
  have hmf : madeCells (Value.int .i64 0).cells (n * i0.size) = (intCells (List.replicate n 0)).toArray := by
    rw [hz1, Nat.mul_one, replicate_cells]
    apply Array.ext'
    apply List.ext_getElem?
    intro j
    simp only [madeCells, Value.cells]
    rw [List.getElem?_replicate]
    by_cases hj : j < n
    · simp [hj, Nat.mod_one]
    · simp [hj]
  rw [hmf] at hmk
  have hr' := hr
  obtain ⟨-, A, c, rfl, hc, -⟩ := hr'
  have HR := Lib.hid (And.intro hr hx)
  clear hmf hr hx
  go_enter Try.func47, Try.ntmps47
  go_wp2_with fail
  have hB0 := Sl.of_blk (base := w.heap.size) (Blk.new w 3 (intCells (List.replicate n 0))) (n := n) (by rw [intCells_length]; simp) (Nat.le_refl _) (by simp only [maxLen]; omega)
  go_loopw [7, 8] (fun s i wr => ∃ k : Nat, k ≤ l.length ∧ i = .int .i64 (k : Int) ∧ Sl wr w.heap.size 3 1 s (n + k) (intCells (List.replicate n 0 ++ (l.take k).map fun (x : Nat) => (x : Int))) ∧ OnlyIn [] w wr) (fun _ i _ => l.length - (intOf i).toNat)
  case atStart => exact ⟨0, by omega, rfl, by simpa using hB0, (OnlyIn.refl _ _).alloc _⟩
  case round =>
    obtain ⟨k, hk, rfl, hs, hto⟩ := hrel
    clear hB0 hmk
    obtain ⟨As, cs, rfl, hcs⟩ := hs.val
    by_cases hlt : k < l.length
    · have hjs : k < (str (txt l)).size := by omega
      have hkt : k < (txt l).length := by rw [txt_length]; exact hlt
      have hget := str_get hjs hkt
      have hz := txt_get hb hlt hkt
      have hx := hb _ (List.getElem_mem hlt)
      have hmeas : l.length - (k + 1) < l.length - k := by omega
      have hk1 : k + 1 ≤ l.length := by omega
      obtain ⟨z, hzz⟩ : ∃ z, l[k]'hlt = z := ⟨_, rfl⟩
      have htk : (List.replicate n (0 : Int) ++ (l.take (k + 1)).map fun (x : Nat) => (x : Int)) = (List.replicate n (0 : Int) ++ (l.take k).map fun (x : Nat) => (x : Int)) ++ [(z : Int)] := by
        rw [List.take_succ_eq_append_getElem hlt, List.map_append, ← List.append_assoc, hzz]; rfl
      rw [hzz] at hz hx
      have hv : (((str (txt l))[k]'hjs).toNat : Int) = 48 + (z : Int) := by rw [hget, hz]; push_cast; rfl
      generalize (List.replicate n (0 : Int) ++ (l.take k).map fun (x : Nat) => (x : Int)) = M at htk hs
      have h48 : (48 : Int) + (z : Int) - 48 = (z : Int) := by omega
      have hw1 : IntKind.u8.wrap (z : Int) = (z : Int) := by rw [IntKind.wrap_u8]; omega
      have hw2 : IntKind.i64.wrap (z : Int) = (z : Int) := by rw [IntKind.wrap_i64]; omega
      have hs' := hs.alloc (.cells (intCells [(z : Int)]).toArray 3)
      have hrd := Rd.lit wr (intCells [(z : Int)]) 3 1 (size := 1) rfl
      have hbw : w.heap.size ≤ wr.heap.size := hto.size
      have HT := Lib.hid htk
      clear hget hz hzz htk hb hs
      go_wp2_with (at_builtin; refine wpList_append_sl rfl _ _ 40 rfl w.heap.size 3 i0 _ 1 8 Try.underlying40 hi0 hz0 hz1 hz2 rfl (by decide) (.slice As _ cs) _ _ rfl hs' _ 1 _ rfl hrd (intCells_one _) (by simp only [maxLen]; omega) (by omega) (by simp; omega) ?_; intro v5 w5 hs5 hg5 hat5)
      go_roundw
      case rel =>
        refine ⟨k + 1, hk1, by go_num, ?_, (hto.alloc _).grown hg5 (fun g hg => .inr (hs'.own_lt g hg).1)⟩
        rw [HT.out, intCells_append]
        exact hs5
      case measure => simp [intOf]; exact hmeas
    · obtain rfl : k = l.length := by omega
      rw [List.take_of_length_le (Nat.le_refl _)] at hs
      have hbw : w.heap.size ≤ wr.heap.size := hto.size
      have hrr := HR.out.1.cells (w' := wr) fun p u hp => hto.cell hp (by simp)
      have hLb : ∀ x ∈ (List.replicate n (0 : Int) ++ l.map fun (x : Nat) => (x : Int)) ++ bh, -9223372036854775808 ≤ x ∧ x ≤ 9223372036854775807 := by
        intro x hx
        rcases List.mem_append.1 hx with hx | hx
        · rcases List.mem_append.1 hx with hx | hx
          · have := List.eq_of_mem_replicate hx; omega
          · obtain ⟨y, hy, rfl⟩ := List.mem_map.1 hx
            have := hb y hy
            omega
        · exact HR.out.2 x hx
      have hodd : odds ((List.replicate n (0 : Int) ++ l.map fun (x : Nat) => (x : Int)) ++ bh) = List.replicate n 0 ++ l ++ odds bh := by
        rw [odds_append, odds_append, odds_nat l hb, odds_zeros]
      have hlen : (List.replicate n (0 : Int) ++ l.map fun (x : Nat) => (x : Int)).length = n + l.length := by simp
      generalize (List.replicate n (0 : Int) ++ l.map fun (x : Nat) => (x : Int)) = M at hs hLb hodd hlen
      have hlen2 : (M ++ bh).length = n + l.length + bh.length := by rw [List.length_append, hlen]
      have HX := Lib.hid (And.intro hLb hodd)
      clear hLb hodd hb
      go_wp2_with (first | (at_builtin; refine wpList_append_sl rfl _ _ 40 rfl w.heap.size 3 i0 _ 1 8 Try.underlying40 hi0 hz0 hz1 hz2 rfl (by decide) (.slice As _ cs) _ _ rfl hs _ bh.length (intCells bh) rfl hrr (intCells_one _) (by simp only [maxLen]; omega) (by omega) (by omega) ?_; intro v5 w5 hs5 hg5 hat5; rw [← intCells_append, ← hlen2] at hs5) | (go_at_call 66; refine (Bits_any _ _ (M ++ bh) (Rd.of_sl hs5) (by omega) HX.out.1).mono ?_; rintro e w6 ⟨u6, rfl, hs6, ht6⟩))
      go_ret
      refine ⟨_, rfl, ?_, ((hto.grown hg5 (fun g hg => .inr (hs.own_lt g hg).1))).trans ht6⟩
      have := Rd.of_sl hs6
      rwa [HX.out.2] at this
end Go.Proofs.Ytejomjkkjcnfnaa
