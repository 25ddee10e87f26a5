/-
  Package bits: Put, Code, Bytes.
-/
import Derived.Test.YtheihohojmcbiaaPen
namespace Go.Mine
/-- The bits of a number, so many, the first one ahead. -/
def bitsOf (n : Nat) : Nat → List Nat
  | 0 => []
  | k + 1 => (n / 2 ^ k % 2) :: bitsOf n k
theorem bitsOf_length (n k : Nat) : (bitsOf n k).length = k := by induction k with | zero => rfl | succ k ih => simp [bitsOf, ih]
theorem bitsOf_bin (n k : Nat) : Bin (bitsOf n k) := by
  induction k with
  | zero => exact Bin.nil
  | succ k ih =>
    intro x hx
    simp only [bitsOf, List.mem_cons] at hx
    rcases hx with rfl | hx
    · exact Nat.mod_lt _ (by omega)
    · exact ih x hx
theorem bitsOf_drop (n k j : Nat) (h : j < k) : (bitsOf n k).drop j = (n / 2 ^ (k - 1 - j) % 2) :: (bitsOf n k).drop (j + 1) := by
  induction k generalizing j with
  | zero => omega
  | succ k ih =>
    cases j with
    | zero => simp [bitsOf]
    | succ j =>
      simp only [bitsOf, List.drop_succ_cons]
      rw [ih j (by omega)]
      congr 4
      omega
theorem bitsOf_get (n k j : Nat) (h : j < k) : (bitsOf n k)[j]? = some (n / 2 ^ (k - 1 - j) % 2) := by
  have := congrArg List.head? (bitsOf_drop n k j h)
  simpa using this
theorem bitsOf_take (n k j : Nat) (h : j < k) : (bitsOf n k).take (j + 1) = (bitsOf n k).take j ++ [n / 2 ^ (k - 1 - j) % 2] := by
  rw [List.take_add_one, bitsOf_get n k j h]; rfl
end Go.Mine
namespace Go.Proofs.Ytheihohojmcbiaa
open Go.RowKit Go.Mine

set_option maxRecDepth 100000 in
theorem Bytes_any (w : World) {base b : Nat} {v : Value} {l : List Nat} (h : PenAt w base b v l) : Calls Try.prog 29 #[.pointer (some ⟨b, 0, none⟩)] w fun e w' => ∃ u, e = .returned u ∧ Sl w' w.heap.size 5 1 u (pack l).length (byteCells (pack l)) ∧ OnlyIn [] w w' := by
  have c0 := h.blk.cell (i := 0) rfl
  have c2 := h.blk.cell (i := 2) rfl
  have hs := h.sl
  rw [← pack_length] at hs
  have hrd := Rd.of_sl hs
  have hlen : (pack l).length ≤ 1000000000 := by rw [pack_length]; have := h.small; omega
  clear h
  go_enter Try.func29, Try.ntmps29
  go_wp2_with (first | (go_at_call 55; refine (pnone_no _ b c2).mono ?_; rintro e w' ⟨rfl, rfl⟩) | (go_at_call 58; refine (Clone_any w (base := 0) v _ hrd hlen).mono ?_; rintro e w' ⟨u, rfl, hu, ht⟩))
  go_ret
  exact ⟨_, rfl, hu, ht⟩
set_option maxRecDepth 100000 in
theorem Bytes_nil (w : World) : Calls Try.prog 29 #[.pointer none] w fun e w' => e = .returned (.slice none 0 0) ∧ w = w' := by
  go_enter Try.func29, Try.ntmps29
  go_wp2_with (go_at_call 55; refine (pnone_nil _).mono ?_; rintro e w' ⟨rfl, rfl⟩)
  go_ret
  exact ⟨rfl, rfl⟩
set_option maxRecDepth 100000 in
theorem Bytes_no (w : World) (b : Nat) (h : w.cell? ⟨b, 2, none⟩ = some (.bool false)) : Calls Try.prog 29 #[.pointer (some ⟨b, 0, none⟩)] w fun e w' => e = .returned (.slice none 0 0) ∧ w = w' := by
  go_enter Try.func29, Try.ntmps29
  go_wp2_with (go_at_call 55; refine (pnone_yes _ b h).mono ?_; rintro e w' ⟨rfl, rfl⟩)
  go_ret
  exact ⟨rfl, rfl⟩
set_option maxRecDepth 100000 in
theorem Len_nil (w : World) : Calls Try.prog 30 #[.pointer none] w fun e w' => e = .returned (.int .i64 0) ∧ w = w' := by
  go_enter Try.func30, Try.ntmps30
  go_wp2_with (go_at_call 55; refine (pnone_nil _).mono ?_; rintro e w' ⟨rfl, rfl⟩)
  go_ret
  exact ⟨rfl, rfl⟩
set_option maxRecDepth 100000 in
theorem Len_no (w : World) (b : Nat) (h : w.cell? ⟨b, 2, none⟩ = some (.bool false)) : Calls Try.prog 30 #[.pointer (some ⟨b, 0, none⟩)] w fun e w' => e = .returned (.int .i64 0) ∧ w = w' := by
  go_enter Try.func30, Try.ntmps30
  go_wp2_with (go_at_call 55; refine (pnone_yes _ b h).mono ?_; rintro e w' ⟨rfl, rfl⟩)
  go_ret
  exact ⟨rfl, rfl⟩
set_option maxRecDepth 100000 in
theorem Code_nil (w : World) (s : ByteArray) : Calls Try.prog 28 #[.pointer none, .string s] w fun e w' => e = .returned (.int .i64 1) ∧ w = w' := by
  go_enter Try.func28, Try.ntmps28
  go_wp2_with (go_at_call 55; refine (pnone_nil _).mono ?_; rintro e w' ⟨rfl, rfl⟩)
  go_ret
  exact ⟨rfl, rfl⟩
set_option maxRecDepth 100000 in
theorem Code_no (w : World) (b : Nat) (s : ByteArray) (h : w.cell? ⟨b, 2, none⟩ = some (.bool false)) : Calls Try.prog 28 #[.pointer (some ⟨b, 0, none⟩), .string s] w fun e w' => e = .returned (.int .i64 1) ∧ w = w' := by
  go_enter Try.func28, Try.ntmps28
  go_wp2_with (go_at_call 55; refine (pnone_yes _ b h).mono ?_; rintro e w' ⟨rfl, rfl⟩)
  go_ret
  exact ⟨rfl, rfl⟩
set_option maxRecDepth 100000 in
theorem Put_nil (w : World) (n k : Int) : Calls Try.prog 27 #[.pointer none, .int .i64 n, .int .i64 k] w fun e w' => e = .returned (.int .i64 1) ∧ w = w' := by
  go_enter Try.func27, Try.ntmps27
  go_wp2_with (go_at_call 55; refine (pnone_nil _).mono ?_; rintro e w' ⟨rfl, rfl⟩)
  go_ret
  exact ⟨rfl, rfl⟩
set_option maxRecDepth 100000 in
theorem Put_no (w : World) (b : Nat) (n k : Int) (h : w.cell? ⟨b, 2, none⟩ = some (.bool false)) : Calls Try.prog 27 #[.pointer (some ⟨b, 0, none⟩), .int .i64 n, .int .i64 k] w fun e w' => e = .returned (.int .i64 1) ∧ w = w' := by
  go_enter Try.func27, Try.ntmps27
  go_wp2_with (go_at_call 55; refine (pnone_yes _ b h).mono ?_; rintro e w' ⟨rfl, rfl⟩)
  go_ret
  exact ⟨rfl, rfl⟩

set_option maxRecDepth 100000 in
theorem Put_range (w : World) {base b : Nat} {v : Value} {l : List Nat} (h : PenAt w base b v l) (n k : Int) (hb : k < 0 ∨ 32 < k ∨ n < 0 ∨ (0 ≤ k ∧ 2 ^ k.toNat ≤ n)) :
    Calls Try.prog 27 #[.pointer (some ⟨b, 0, none⟩), .int .i64 n, .int .i64 k] w fun e w' => e = .returned (.int .i64 3) ∧ w = w' := by
  have c2 := h.blk.cell (i := 2) rfl
  clear h
  by_cases h1 : k < 0
  · go_enter Try.func27, Try.ntmps27
    go_wp2_with (go_at_call 55; refine (pnone_no _ b c2).mono ?_; rintro e w' ⟨rfl, rfl⟩)
    go_ret
    exact ⟨rfl, rfl⟩
  · by_cases h2 : 32 < k
    · go_enter Try.func27, Try.ntmps27
      go_wp2_with (go_at_call 55; refine (pnone_no _ b c2).mono ?_; rintro e w' ⟨rfl, rfl⟩)
      go_ret
      exact ⟨rfl, rfl⟩
    · by_cases h3 : n < 0
      · go_enter Try.func27, Try.ntmps27
        go_wp2_with (go_at_call 55; refine (pnone_no _ b c2).mono ?_; rintro e w' ⟨rfl, rfl⟩)
        go_ret
        exact ⟨rfl, rfl⟩
      · obtain ⟨m, rfl⟩ := Int.eq_ofNat_of_zero_le (by omega : 0 ≤ n)
        obtain ⟨j, rfl⟩ := Int.eq_ofNat_of_zero_le (by omega : 0 ≤ k)
        have h4 : 2 ^ j ≤ m := by
          rcases hb with hb | hb | hb | hb
          · omega
          · omega
          · omega
          · have := hb.2; simp at this; exact_mod_cast this
        have hsh : ((m : Int) / 2 ^ j) = ((m / 2 ^ j : Nat) : Int) := by push_cast; rfl
        have hpos : 0 < m / 2 ^ j := Nat.div_pos h4 (Nat.two_pow_pos _)
        have hd : decide (0 < ((m / 2 ^ j : Nat) : Int)) = true := decide_eq_true (by omega)
        obtain ⟨z, hz⟩ : ∃ z, m / 2 ^ j = z := ⟨_, rfl⟩
        rw [hz] at hsh hpos hd
        have HZ := Lib.hid (And.intro hz hb)
        clear hz hb h4
        go_enter Try.func27, Try.ntmps27
        go_wp2_with (go_at_call 55; refine (pnone_no _ b c2).mono ?_; rintro e w' ⟨rfl, rfl⟩)
        go_ret
        exact ⟨rfl, rfl⟩

set_option maxRecDepth 100000 in
theorem Put_long (w : World) {base b : Nat} {v : Value} {l : List Nat} (h : PenAt w base b v l) (n k : Nat) (hk : k ≤ 32) (hn : n < 2 ^ k) (hl : 16777216 < l.length + k) :
    Calls Try.prog 27 #[.pointer (some ⟨b, 0, none⟩), .int .i64 (n : Int), .int .i64 (k : Int)] w fun e w' => e = .returned (.int .i64 4) ∧ w = w' := by
  have c2 := h.blk.cell (i := 2) rfl
  have c1 := h.blk.cell (i := 1) rfl
  have hsm := h.small
  clear h
  have hsh : ((n : Int) / 2 ^ k) = ((n / 2 ^ k : Nat) : Int) := by push_cast; rfl
  rw [Nat.div_eq_of_lt hn] at hsh
  have h1 : ¬ (k : Int) < 0 := by omega
  have h2 : ¬ (32 : Int) < (k : Int) := by omega
  have h3 : ¬ (n : Int) < 0 := by omega
  have h4 : decide ((16777216 : Int) < (l.length : Int) + (k : Int)) = true := by simp; omega
  clear hn
  go_enter Try.func27, Try.ntmps27
  go_wp2_with (first | (go_at_call 55; refine (pnone_no _ b c2).mono ?_; rintro e w' ⟨rfl, rfl⟩) | (go_at_call 56; refine (pfull_any _ b l.length k c1 hsm (by omega)).mono ?_; rintro e w' ⟨rfl, rfl⟩))
  go_ret
  exact ⟨rfl, rfl⟩

def putAt (w0 : World) (base b : Nat) (v0 : Value) (l : List Nat) (n k : Nat) (i : Value) (wr : World) : Prop :=
  ∃ (j : Nat) (v : Value), j ≤ k ∧ i = .int .i64 ((k : Int) - 1 - (j : Int)) ∧ PenAt wr base b v (l ++ (bitsOf n k).take j) ∧ OnlyIn (b :: v0.ownBlock.toList) w0 wr ∧ (∀ g, v.ownBlock = some g → v0.ownBlock = some g ∨ w0.heap.size ≤ g)

set_option maxRecDepth 100000 in
set_option maxHeartbeats 1000000 in
theorem Put_ok (w : World) {base b : Nat} {v : Value} {l : List Nat} (h : PenAt w base b v l) (n k : Nat) (hk : k ≤ 32) (hn : n < 2 ^ k) (hl : l.length + k ≤ 16777216) (hbase : base ≤ w.heap.size) :
    Calls Try.prog 27 #[.pointer (some ⟨b, 0, none⟩), .int .i64 (n : Int), .int .i64 (k : Int)] w fun e w' => e = .returned (.int .i64 0) ∧ ∃ v', PenAt w' base b v' (l ++ bitsOf n k) ∧ OnlyIn (b :: v.ownBlock.toList) w w' ∧ (∀ g, v'.ownBlock = some g → v.ownBlock = some g ∨ w.heap.size ≤ g) := by
  have c2 := h.blk.cell (i := 2) rfl
  have c1 := h.blk.cell (i := 1) rfl
  have hsm := h.small
  have hn64 : n < 4294967296 := Nat.lt_of_lt_of_le hn (Nat.pow_le_pow_right (by omega) hk)
  have hsh : ((n : Int) / 2 ^ k) = ((n / 2 ^ k : Nat) : Int) := by push_cast; rfl
  rw [Nat.div_eq_of_lt hn] at hsh
  have h1 : ¬ (k : Int) < 0 := by omega
  have h2 : ¬ (32 : Int) < (k : Int) := by omega
  have h3 : ¬ (n : Int) < 0 := by omega
  have h4 : decide ((16777216 : Int) < (l.length : Int) + (k : Int)) = false := by simp; omega
  clear hn
  go_enter Try.func27, Try.ntmps27
  go_wp2_with (first | (go_at_call 55; refine (pnone_no _ b c2).mono ?_; rintro e w' ⟨rfl, rfl⟩) | (go_at_call 56; refine (pfull_any _ b l.length k c1 hsm (by omega)).mono ?_; rintro e w' ⟨rfl, rfl⟩))
  go_loopw [7] (putAt w base b v l n k) (fun i _ => (intOf i + 1).toNat)
  case atStart => exact ⟨0, v, by omega, by simp, by simpa using h, OnlyIn.refl _ _, fun g hg => .inl hg⟩
  case round =>
    obtain ⟨j, v1, hj, rfl, hP, hto, hown⟩ := hrel
    by_cases hlt : j < k
    · obtain ⟨s, hs⟩ : ∃ s, k - 1 - j = s := ⟨_, rfl⟩
      have hks : (k : Int) - 1 - (j : Int) = (s : Int) := by omega
      have hsh2 : ((n : Int) / 2 ^ s) = ((n / 2 ^ s : Nat) : Int) := by push_cast; rfl
      have htk := bitsOf_take n k j hlt
      rw [hs] at htk
      have hnz : n / 2 ^ s ≤ n := Nat.div_le_self _ _
      obtain ⟨z, hz⟩ : ∃ z, n / 2 ^ s = z := ⟨_, rfl⟩
      rw [hz] at hsh2 htk hnz
      have hand := and1 z (by omega)
      have HT := Lib.hid htk
      have HP := Lib.hid (And.intro hP hs)
      have hlen : (l ++ (bitsOf n k).take j).length < 16777216 := by simp [bitsOf_length]; omega
      have hbw : base ≤ wr.heap.size := Nat.le_trans hbase hto.size
      clear htk hz hP hs
      have hge : (0 : Int) ≤ (s : Int) := by omega
      rw [hks]
      go_wp2_with fail
      refine (write_any wr HP.out.1 (z % 2) (Nat.mod_lt _ (by omega)) hlen hbw).mono ?_
      rintro e w2 ⟨rfl, v2, hP2, ht2, hown2⟩
      have hP3 : PenAt w2 base b v2 (l ++ (bitsOf n k).take (j + 1)) := by
        rw [HT.out, ← List.append_assoc]; exact hP2
      have hs := HP.out.2
      clear hP2 hsh hsh2
      go_wp2_with fail
      go_roundw
      case rel =>
        refine ⟨j + 1, v2, by omega, ?_, hP3, ?_, ?_⟩
        · congr 1; omega
        · refine hto.then ht2 (fun x hx => ?_)
          simp only [List.mem_cons, Option.mem_toList] at hx ⊢
          rcases hx with hx | hx
          · exact .inl (.inl hx)
          · rcases hown x hx with h | h
            · exact .inl (.inr h)
            · exact .inr h
        · intro g hg
          rcases hown2 g hg with h | h
          · exact hown g h
          · exact .inr (Nat.le_trans hto.size h)
      case measure => simp [intOf]; try omega
    · obtain rfl : j = k := by omega
      have hneg : ¬ (0 : Int) ≤ (j : Int) - 1 - (j : Int) := by omega
      go_wp2_with fail
      go_ret
      rw [List.take_of_length_le (by rw [bitsOf_length]; exact Nat.le_refl _)] at hP
      exact ⟨rfl, v1, hP, hto, hown⟩
end Go.Proofs.Ytheihohojmcbiaa
