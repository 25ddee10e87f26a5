/-
  Package bits: Put, Code, Bytes.
-/
import Derived.Test.YteblkjmeaojegaaDoorPen
namespace Go.Mine
/-- The bits of a number, so many, the first one ahead. -/
def bitsOf (n : Nat) : Nat → List Nat
  | 0 => []
  | k + 1 => (n / 2 ^ k % 2) :: bitsOf n k
theorem bitsOf_length (n k : Nat) : (bitsOf n k).length = k := by induction k with | zero => rfl | succ k ih => simp [bitsOf, ih]
theorem bitsOf_bin (n k : Nat) : Bin (bitsOf n k) := by
  induction k with
  | zero => exact Bin.nil
  | succ k ih =>
    intro x hx
    simp only [bitsOf, List.mem_cons] at hx
    rcases hx with rfl | hx
    · exact Nat.mod_lt _ (by omega)
    · exact ih x hx
theorem bitsOf_drop (n k j : Nat) (h : j < k) : (bitsOf n k).drop j = (n / 2 ^ (k - 1 - j) % 2) :: (bitsOf n k).drop (j + 1) := by
  induction k generalizing j with
  | zero => omega
  | succ k ih =>
    cases j with
    | zero => simp [bitsOf]
    | succ j =>
      simp only [bitsOf, List.drop_succ_cons]
      rw [ih j (by omega)]
      congr 4
      omega
theorem bitsOf_get (n k j : Nat) (h : j < k) : (bitsOf n k)[j]? = some (n / 2 ^ (k - 1 - j) % 2) := by
  have := congrArg List.head? (bitsOf_drop n k j h)
  simpa using this
theorem bitsOf_take (n k j : Nat) (h : j < k) : (bitsOf n k).take (j + 1) = (bitsOf n k).take j ++ [n / 2 ^ (k - 1 - j) % 2] := by
  rw [List.take_add_one, bitsOf_get n k j h]; rfl
end Go.Mine
namespace Go.Proofs.YteblkjmeaojegaaDoor
open Go.RowKit Go.Mine

set_option maxRecDepth 100000 in
theorem Bytes_any (w : World) {base b : Nat} {v : Value} {l : List Nat} (h : PenAt w base b v l) : Calls Tryd.prog 25 #[.pointer (some ⟨b, 0, none⟩)] w fun e w' => ∃ u, e = .returned u ∧ Sl w' w.heap.size 5 1 u (pack l).length (byteCells (pack l)) ∧ OnlyIn [] w w' := by
  have c0 := h.blk.cell (i := 0) rfl
  have c2 := h.blk.cell (i := 2) rfl
  have hs := h.sl
  rw [← pack_length] at hs
  have hrd := Rd.of_sl hs
  have hlen : (pack l).length ≤ 1000000000 := by rw [pack_length]; have := h.small; omega
  clear h
  go_enter Tryd.func25, Tryd.ntmps25
  go_wp2_with (first | (go_at_call 33; refine (pnone_no _ b c2).mono ?_; rintro e w' ⟨rfl, rfl⟩) | (go_at_call 36; refine (Clone_any w (base := 0) v _ hrd hlen).mono ?_; rintro e w' ⟨u, rfl, hu, ht⟩))
  go_ret
  exact ⟨_, rfl, hu, ht⟩
set_option maxRecDepth 100000 in
theorem Bytes_nil (w : World) : Calls Tryd.prog 25 #[.pointer none] w fun e w' => e = .returned (.slice none 0 0) ∧ w = w' := by
  go_enter Tryd.func25, Tryd.ntmps25
  go_wp2_with (go_at_call 33; refine (pnone_nil _).mono ?_; rintro e w' ⟨rfl, rfl⟩)
  go_ret
  exact ⟨rfl, rfl⟩
set_option maxRecDepth 100000 in
theorem Bytes_no (w : World) (b : Nat) (h : w.cell? ⟨b, 2, none⟩ = some (.bool false)) : Calls Tryd.prog 25 #[.pointer (some ⟨b, 0, none⟩)] w fun e w' => e = .returned (.slice none 0 0) ∧ w = w' := by
  go_enter Tryd.func25, Tryd.ntmps25
  go_wp2_with (go_at_call 33; refine (pnone_yes _ b h).mono ?_; rintro e w' ⟨rfl, rfl⟩)
  go_ret
  exact ⟨rfl, rfl⟩
set_option maxRecDepth 100000 in
theorem Len_nil (w : World) : Calls Tryd.prog 26 #[.pointer none] w fun e w' => e = .returned (.int .i64 0) ∧ w = w' := by
  go_enter Tryd.func26, Tryd.ntmps26
  go_wp2_with (go_at_call 33; refine (pnone_nil _).mono ?_; rintro e w' ⟨rfl, rfl⟩)
  go_ret
  exact ⟨rfl, rfl⟩
set_option maxRecDepth 100000 in
theorem Len_no (w : World) (b : Nat) (h : w.cell? ⟨b, 2, none⟩ = some (.bool false)) : Calls Tryd.prog 26 #[.pointer (some ⟨b, 0, none⟩)] w fun e w' => e = .returned (.int .i64 0) ∧ w = w' := by
  go_enter Tryd.func26, Tryd.ntmps26
  go_wp2_with (go_at_call 33; refine (pnone_yes _ b h).mono ?_; rintro e w' ⟨rfl, rfl⟩)
  go_ret
  exact ⟨rfl, rfl⟩
set_option maxRecDepth 100000 in
theorem Code_nil (w : World) (s : ByteArray) : Calls Tryd.prog 24 #[.pointer none, .string s] w fun e w' => e = .returned (.int .i64 1) ∧ w = w' := by
  go_enter Tryd.func24, Tryd.ntmps24
  go_wp2_with (go_at_call 33; refine (pnone_nil _).mono ?_; rintro e w' ⟨rfl, rfl⟩)
  go_ret
  exact ⟨rfl, rfl⟩
set_option maxRecDepth 100000 in
theorem Code_no (w : World) (b : Nat) (s : ByteArray) (h : w.cell? ⟨b, 2, none⟩ = some (.bool false)) : Calls Tryd.prog 24 #[.pointer (some ⟨b, 0, none⟩), .string s] w fun e w' => e = .returned (.int .i64 1) ∧ w = w' := by
  go_enter Tryd.func24, Tryd.ntmps24
  go_wp2_with (go_at_call 33; refine (pnone_yes _ b h).mono ?_; rintro e w' ⟨rfl, rfl⟩)
  go_ret
  exact ⟨rfl, rfl⟩
end Go.Proofs.YteblkjmeaojegaaDoor
