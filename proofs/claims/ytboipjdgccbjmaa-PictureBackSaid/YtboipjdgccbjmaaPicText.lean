/-
  Package picture: digits.
-/
import Derived.Test.YtboipjdgccbjmaaBuilder
import Derived.Test.YtboipjdgccbjmaaText2
namespace Go.Proofs.Ytboipjdgccbjmaa
open Go.RowKit Go.Mine

set_option maxRecDepth 100000 in
set_option maxHeartbeats 1000000 in
theorem pdigits_any (w : World) (n k : Nat) (hn : n < 4294967296) (hk1 : 1 ≤ k) (hk : k ≤ 64) :
    Calls Try.prog 52 #[.int .i64 (n : Int), .int .i64 (k : Int)] w fun e w' => e = .returned (.string (str (txt (bitsOf n k)))) ∧ OnlyIn [] w w' := by
  go_enter Try.func52, Try.ntmps52
  go_wp2_with fail
  have hfresh := Lib.fresh_isBuilder 116 5 w
  have hbel : Below w.heap.size w (w.alloc (.cells #[.pointer none, .slice none 0 0] 116)) := (Below.refl _ _).alloc (Nat.le_refl _) _
  generalize hb : w.heap.size = b at *
  go_loopw [6] (fun i wr => ∃ j : Nat, j ≤ k ∧ i = .int .i64 ((k : Int) - 1 - (j : Int)) ∧ Lib.IsBuilder 116 5 b b (Lib.byteCells (txt ((bitsOf n k).take j))) wr ∧ Below b w wr) (fun i _ => (intOf i + 1).toNat)
  case atStart => exact ⟨0, by omega, by simp, by simpa [txt, Lib.byteCells] using hfresh, hbel⟩
  case round =>
    clear hfresh hbel
    obtain ⟨j, hj, rfl, hB, hto⟩ := hrel
    have hbw : b ≤ wr.heap.size := by have := hto.size; omega
    by_cases hlt : j < k
    · obtain ⟨s, hs⟩ : ∃ s, k - 1 - j = s := ⟨_, rfl⟩
      have hks : (k : Int) - 1 - (j : Int) = (s : Int) := by omega
      have hsh2 : ((n : Int) / 2 ^ s) = ((n / 2 ^ s : Nat) : Int) := by push_cast; rfl
      have htk := bitsOf_take n k j hlt
      rw [hs] at htk
      have hnz : n / 2 ^ s ≤ n := Nat.div_le_self _ _
      obtain ⟨z, hz⟩ : ∃ z, n / 2 ^ s = z := ⟨_, rfl⟩
      rw [hz] at hsh2 htk hnz
      have hand := and1 z (by omega)
      obtain ⟨x, hx⟩ : ∃ x, z % 2 = x := ⟨_, rfl⟩
      have hx2 : x < 2 := by omega
      have hq2 : Lib.byteCells (txt ((bitsOf n k).take (j + 1))) = Lib.byteCells (txt ((bitsOf n k).take j)) ++ [.int .u8 (48 + (x : Int))] := by
        rw [htk, txt_append, Lib.byteCells_append, hx]
        congr 1
        show [Value.int .u8 ((UInt8.ofNat (48 + x)).toNat : Int)] = _
        rw [UInt8.toNat_ofNat_of_lt' (show 48 + x < 2 ^ 8 by omega)]
        push_cast
        rfl
      have hql : (Lib.byteCells (txt ((bitsOf n k).take j))).length ≤ 64 := by rw [Lib.byteCells_length, txt_length, List.length_take, bitsOf_length]; omega
      rw [hx] at hand
      obtain ⟨q, hq⟩ : ∃ q, Lib.byteCells (txt ((bitsOf n k).take j)) = q := ⟨_, rfl⟩
      rw [hq] at hB hq2 hql
      have hwb := fun w h h2 => WriteByte_any b b q (48 + (x : Int)) w h (by omega) h2
      have HS := Lib.hid (And.intro hs hq2)
      have hge : (0 : Int) ≤ (s : Int) := by omega
      have hw1 : IntKind.i64.wrap (48 + (x : Int)) = 48 + (x : Int) := by rw [IntKind.wrap_i64]; omega
      have hw2 : IntKind.u8.wrap (48 + (x : Int)) = 48 + (x : Int) := by rw [IntKind.wrap_u8]; omega
      clear htk hz hs hq hq2 hx
      rw [hks]
      go_wp2_with (go_at_call 75; refine (hwb _ hB hbw).mono ?_; rintro e w2 ⟨rfl, hB2, ht2⟩)
      go_roundw
      case rel =>
        obtain ⟨hs, hq2⟩ := HS.out
        exact ⟨j + 1, by omega, by congr 1; omega, by rw [hq2]; exact .inr hB2, hto.trans ht2⟩
      case measure => simp [intOf]; try omega
    · obtain rfl : j = k := by omega
      have hneg : ¬ (0 : Int) ≤ (j : Int) - 1 - (j : Int) := by omega
      rw [List.take_of_length_le (by rw [bitsOf_length]; exact Nat.le_refl _)] at hB
      have hne : txt (bitsOf n j) ≠ [] := by
        intro h
        have := congrArg List.length h
        rw [txt_length, bitsOf_length] at this
        simp at this
        omega
      have hst := String_any b b _ wr hB hne
      go_wp2_with (go_at_call 76; refine hst.mono ?_; rintro e w2 ⟨rfl, ht2⟩)
      go_ret
      exact ⟨rfl, OnlyIn.of_below (by rw [hb]; exact hto.trans ht2)⟩
end Go.Proofs.Ytboipjdgccbjmaa
