/-
  Numbers as texts of '0' and '1': the given code's and the reference's.
-/
import Derived.Test.YtboipjdgccbjmaaKitBytes
import Derived.Test.YtboipjdgccbjmaaPenPut
namespace Go.Mine
open Go.RowKit
/-- Bits as a text. -/
def txt (l : List Nat) : List UInt8 := l.map fun x => UInt8.ofNat (48 + x)
theorem txt_append (a b : List Nat) : txt (a ++ b) = txt a ++ txt b := by simp [txt]
theorem txt_length (a : List Nat) : (txt a).length = a.length := by simp [txt]
theorem str_append (a b : List UInt8) : str a ++ str b = str (a ++ b) := ByteArray.mk_append_mk a b
theorem run_add_str {P : Program} (w : World) (a b : List UInt8) (h : a.length + b.length ≤ 1000000000) : (Op.stringOp .add (str a) (str b)).run P w = .ok (.string (str (a ++ b))) w := by
  rw [run_string_add_sum w _ _ (by rw [str_size, str_size]; omega), str_append]
theorem encode_dig (x : Nat) (hx : x < 2) : Utf8.encode (48 + (x : Int)) = str [UInt8.ofNat (48 + x)] := by
  rcases (by omega : x = 0 ∨ x = 1) with rfl | rfl <;> rfl
theorem txt_one (x : Nat) : txt [x] = [UInt8.ofNat (48 + x)] := rfl
end Go.Mine
namespace Go.Proofs.Ytboipjdgccbjmaa
open Go.RowKit Go.Mine

set_option maxRecDepth 100000 in
/-- 'Digits(n, bits)'. -/
theorem rdigits_any (w : World) (n k : Nat) (hn : n < 4294967296) (hk : k ≤ 64) :
    Calls Try.prog 53 #[.int .i64 (n : Int), .int .i64 (k : Int)] w fun e w' => e = .returned (.string (str (txt (bitsOf n k)))) ∧ OnlyIn [] w w' := by
  go_enter Try.func53, Try.ntmps53
  go_wp2_with fail
  go_loopw [5, 6] (fun t i wr => ∃ j : Nat, j ≤ k ∧ i = .int .i64 ((k : Int) - 1 - (j : Int)) ∧ t = .string (str (txt ((bitsOf n k).take j))) ∧ OnlyIn [] w wr) (fun _ i _ => (intOf i + 1).toNat)
  case atStart => exact ⟨0, by omega, by simp, by simp [txt, str], OnlyIn.refl _ _⟩
  case round =>
    obtain ⟨j, hj, rfl, rfl, hto⟩ := hrel
    by_cases hlt : j < k
    · obtain ⟨s, hs⟩ : ∃ s, k - 1 - j = s := ⟨_, rfl⟩
      have hks : (k : Int) - 1 - (j : Int) = (s : Int) := by omega
      have hsh2 : ((n : Int) / 2 ^ s) = ((n / 2 ^ s : Nat) : Int) := by push_cast; rfl
      have htk := bitsOf_take n k j hlt
      rw [hs] at htk
      have hnz : n / 2 ^ s ≤ n := Nat.div_le_self _ _
      obtain ⟨z, hz⟩ : ∃ z, n / 2 ^ s = z := ⟨_, rfl⟩
      rw [hz] at hsh2 htk hnz
      obtain ⟨q, hq⟩ : ∃ q, txt ((bitsOf n k).take j) = q := ⟨_, rfl⟩
      have hql : q.length ≤ 1000100 := by rw [← hq, txt_length, List.length_take, bitsOf_length]; omega
      have hq2 : txt ((bitsOf n k).take (j + 1)) = q ++ [UInt8.ofNat (48 + z % 2)] := by rw [htk, txt_append, hq]; rfl
      obtain ⟨x, hx⟩ : ∃ x, z % 2 = x := ⟨_, rfl⟩
      have hx2 : x < 2 := by omega
      have hrem : (z : Int).tmod 2 = (x : Int) := by rw [Int.tmod_eq_emod_of_nonneg (by omega)]; omega
      have hrem2 : (z : Int) % 2 = (x : Int) := by omega
      have hus : IntKind.u64.wrap (s : Int) = (s : Int) := by rw [IntKind.wrap_u64]; omega
      rw [hx] at hq2
      have hadd := fun w => run_add_str (P := Try.prog) w q [UInt8.ofNat (48 + x)] (by simp; omega)
      have hcv : (convert 22 9 (.slice (some ⟨wr.heap.size, 0, none⟩) 1 1)).run Try.prog (wr.alloc (.cells #[.int .u8 (48 + (x : Int))] 5)) = .ok (.string (str [UInt8.ofNat (48 + x)])) (wr.alloc (.cells #[.int .u8 (48 + (x : Int))] 5)) := by
        have h1 : (Value.int .u8 (48 + (x : Int))) = .int .u8 ((UInt8.ofNat (48 + x)).toNat : Int) := by congr 1; rw [UInt8.toNat_ofNat_of_lt' (show 48 + x < 2 ^ 8 by omega)]; push_cast; rfl
        rw [h1]
        exact run_str (bs := [UInt8.ofNat (48 + x)]) (Rd.lit wr (byteCells [UInt8.ofNat (48 + x)]) 5 1 rfl) _ _ 5 Try.underlying22 Try.underlying5 Try.underlying9
      obtain ⟨ch, hch⟩ : ∃ ch, UInt8.ofNat (48 + x) = ch := ⟨_, rfl⟩
      rw [hch] at hadd hq2 hcv
      clear hch
      have HS := Lib.hid (And.intro hs (And.intro hq2 hto))
      rw [hq]
      have hge : (0 : Int) ≤ (s : Int) := by omega
      have hw1 : IntKind.i64.wrap (48 + (x : Int)) = 48 + (x : Int) := by rw [IntKind.wrap_i64]; omega
      have hw2 : IntKind.u8.wrap (48 + (x : Int)) = 48 + (x : Int) := by rw [IntKind.wrap_u8]; omega
      clear htk hz hs hq hq2 hx hto
      rw [hks]
      go_wp2_with fail
      go_roundw
      case rel =>
        obtain ⟨hs, hq2, hto⟩ := HS.out
        exact ⟨j + 1, by omega, by congr 1; omega, by rw [hq2], hto.alloc _⟩
      case measure => simp [intOf]; try omega
    · obtain rfl : j = k := by omega
      have hneg : ¬ (0 : Int) ≤ (j : Int) - 1 - (j : Int) := by omega
      go_wp2_with fail
      go_ret
      rw [List.take_of_length_le (by rw [bitsOf_length]; exact Nat.le_refl _)]
      exact ⟨rfl, hto⟩
end Go.Proofs.Ytboipjdgccbjmaa
