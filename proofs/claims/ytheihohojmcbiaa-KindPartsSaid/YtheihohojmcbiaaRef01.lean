/-
  The reference for layer 1: bit, Count, Read, noughts, Start.
-/
import Derived.Test.YtheihohojmcbiaaReadAll
namespace Go.Proofs.Ytheihohojmcbiaa
open Go.RowKit Go.Mine

set_option maxRecDepth 100000 in
theorem rCount_any (w : World) (A : Option Addr) (n c : Nat) (hl : n ≤ 1000000000) :
    Calls Try.prog 71 #[.slice A n c] w fun e w' => e = .returned (.int .i64 (8 * (n : Int))) ∧ w = w' := by
  go_enter Try.func71, Try.ntmps71
  go_wp2
  go_ret
  exact ⟨rfl, rfl⟩

set_option maxRecDepth 100000 in
theorem rbit_any (w : World) (v : Value) (bs : List UInt8) (hr : Rd w 1 v bs.length (byteCells bs)) (i : Nat) (hi : i < 8 * bs.length) (hl : bs.length ≤ 1000000000) :
    Calls Try.prog 84 #[v, .int .i64 (i : Int)] w fun e w' => e = .returned (.int .i64 (bitAt bs i : Int)) ∧ w = w' := by
  obtain ⟨-, A, c, rfl, hc, hA⟩ := hr
  obtain ⟨g, off, rfl, hg⟩ := hA (by omega)
  have hq : i / 8 < bs.length := by omega
  have q0 := hg (i / 8) (.int .u8 ((bs[i / 8]'hq).toNat : Int)) (by simp [byteCells, List.getElem?_eq_getElem hq])
  obtain ⟨q, hqq⟩ : ∃ q, i / 8 = q := ⟨_, rfl⟩
  obtain ⟨r, hrr⟩ : ∃ r, i % 8 = r := ⟨_, rfl⟩
  obtain ⟨s, hss⟩ : ∃ s, 7 - r = s := ⟨_, rfl⟩
  have e1 : (i : Int).tdiv 8 = (q : Int) := by rw [Int.tdiv_eq_ediv_of_nonneg (by omega)]; omega
  have e1' : (i : Int) / 8 = (q : Int) := by omega
  have e2 : (i : Int).tmod 8 = (r : Int) := by rw [Int.tmod_eq_emod_of_nonneg (by omega)]; omega
  have e2' : (i : Int) % 8 = (r : Int) := by omega
  have e3 : 7 - (r : Int) = (s : Int) := by omega
  have e4 : IntKind.u64.wrap (s : Int) = (s : Int) := by rw [IntKind.wrap_u64]; omega
  have hs := shAt_lt bs i
  obtain ⟨X, hX⟩ : ∃ X, (bs[i / 8]'hq).toNat = X := ⟨_, rfl⟩
  obtain ⟨z, hz⟩ : ∃ z, X / 2 ^ s = z := ⟨_, rfl⟩
  have hsz : shAt bs i = z := by rw [← hz, ← hX, ← hss, ← hrr]; simp [shAt, List.getElem?_eq_getElem hq]
  have e5 : (X : Int) / 2 ^ s = (z : Int) := by rw [← hz]; push_cast; rfl
  obtain ⟨b, hb⟩ : ∃ b, bitAt bs i = b := ⟨_, rfl⟩
  have hbz : z % 2 = b := by rw [← hb, bitAt, hsz]
  have e6 : (z : Int).tmod 2 = (b : Int) := by rw [Int.tmod_eq_emod_of_nonneg (by omega)]; omega
  have e6' : (z : Int) % 2 = (b : Int) := by omega
  rw [hX, hqq] at q0
  rw [hsz] at hs
  have hrl : r < 8 := by omega
  have hql : q < bs.length := by omega
  have hX8 : X < 256 := by rw [← hX]; exact UInt8.toNat_lt _
  rw [hb]
  clear hX hz hsz hb hbz hg hA hqq hrr hss
  go_enter Try.func84, Try.ntmps84
  go_wp2
  go_ret
  exact ⟨rfl, rfl⟩

set_option maxRecDepth 100000 in
theorem rRead_all (w : World) (v : Value) (bs : List UInt8) (hr : Rd w 1 v bs.length (byteCells bs)) (hl : bs.length ≤ 1000000000) (i n : Int) (hi : i ≤ 9223372036854775807) :
    Calls Try.prog 72 #[v, .int .i64 i, .int .i64 n] w fun e w' => e = .returned (.tuple #[.int .i64 (readOf bs i n).1, .int .i64 (readOf bs i n).2]) ∧ OnlyIn [] w w' := by
  have hr' := hr
  obtain ⟨-, A, c, rfl, hc, -⟩ := hr'
  by_cases h1 : i < 0
  · rw [readOf, if_pos (.inl h1)]
    go_enter Try.func72, Try.ntmps72
    go_wp2
    go_ret2
    exact ⟨rfl, OnlyIn.refl _ _⟩
  by_cases h2 : n < 0
  · rw [readOf, if_pos (.inr (.inl h2))]
    go_enter Try.func72, Try.ntmps72
    go_wp2
    go_ret2
    exact ⟨rfl, OnlyIn.refl _ _⟩
  by_cases h3 : 32 < n
  · rw [readOf, if_pos (.inr (.inr h3))]
    go_enter Try.func72, Try.ntmps72
    go_wp2
    go_ret2
    exact ⟨rfl, OnlyIn.refl _ _⟩
  rw [readOf, if_neg (by omega)]
  obtain ⟨i, rfl⟩ := Int.eq_ofNat_of_zero_le (by omega : 0 ≤ i)
  obtain ⟨n, rfl⟩ := Int.eq_ofNat_of_zero_le (by omega : 0 ≤ n)
  by_cases h4 : 8 * (bs.length : Int) < (i : Int)
  · rw [if_pos (by omega)]
    clear hr
    go_enter Try.func72, Try.ntmps72
    go_wp2_with (go_at_call 71; refine (rCount_any _ A bs.length c hl).mono ?_; rintro e w' ⟨rfl, rfl⟩)
    go_ret2
    exact ⟨rfl, OnlyIn.refl _ _⟩
  by_cases h5 : 8 * (bs.length : Int) < (i : Int) + (n : Int)
  · rw [if_pos h5]
    clear hr
    have h6 : 8 * (bs.length : Int) - (i : Int) < (n : Int) := by omega
    go_enter Try.func72, Try.ntmps72
    go_wp2_with (go_at_call 71; refine (rCount_any _ A bs.length c hl).mono ?_; rintro e w' ⟨rfl, rfl⟩)
    go_ret2
    exact ⟨rfl, OnlyIn.refl _ _⟩
  rw [if_neg h5]
  have h6 : ¬ 8 * (bs.length : Int) - (i : Int) < (n : Int) := by omega
  simp only [Int.toNat_natCast]
  have hb : ∀ W k, OnlyIn [] w W → k < n → Calls Try.prog 84 #[.slice A bs.length c, .int .i64 ((i : Int) + (k : Int))] W fun e w' => e = .returned (.int .i64 (bitAt bs (i + k) : Int)) ∧ W = w' := fun W k hW hk => by
    rw [show ((i : Int) + (k : Int)) = ((i + k : Nat) : Int) from by omega]
    exact rbit_any W _ bs (hr.cells fun p u hp => hW.cell hp (by simp)) (i + k) (by omega) hl
  clear hr
  go_enter Try.func72, Try.ntmps72
  go_wp2_with (go_at_call 71; refine (rCount_any _ A bs.length c hl).mono ?_; rintro e w' ⟨rfl, rfl⟩)
  go_loopw [8, 9] (fun x m wr => ∃ k : Nat, k ≤ n ∧ m = .int .i64 (k : Int) ∧ x = .int .i64 (numAt bs i k : Int) ∧ OnlyIn [] w wr) (fun _ m _ => n - (intOf m).toNat)
  case atStart => exact ⟨0, by omega, rfl, rfl, OnlyIn.refl _ _⟩
  case round =>
    obtain ⟨k, hk, rfl, rfl, hto⟩ := hrel
    by_cases hlt : k < n
    · have hbl := bitAt_lt bs (i + k)
      have hnb := numAt_lt bs i k
      have hpow : 2 ^ k ≤ 2 ^ 31 := Nat.pow_le_pow_right (by omega) (by omega)
      have hn1 : numAt bs i (k + 1) = 2 * numAt bs i k + bitAt bs (i + k) := rfl
      obtain ⟨X, hX⟩ : ∃ X, numAt bs i k = X := ⟨_, rfl⟩
      obtain ⟨b, hbb⟩ : ∃ b, bitAt bs (i + k) = b := ⟨_, rfl⟩
      have hk1 := hb wr k hto hlt
      rw [hbb] at hk1 hn1 hbl
      rw [hX] at hn1 hnb
      rw [hX]
      have HH := Lib.hid (And.intro hn1 hto)
      have hmeas : n - (k + 1) < n - k := by omega
      have hXl : X < 2147483648 := by omega
      have hbp : 0 ≤ (b : Int) := by omega
      clear hX hbb hn1 hnb hpow hto hb
      go_wp2_with (go_at_call 84; refine hk1.mono ?_; rintro e w' ⟨rfl, rfl⟩)
      go_roundw
      case rel =>
        obtain ⟨hn1, hto⟩ := HH.out
        exact ⟨k + 1, by omega, by go_num, by rw [hn1]; go_num, by first | exact hto | exact hto.drew⟩
      case measure => simp [intOf]; exact hmeas
    · obtain rfl : k = n := by omega
      clear hb
      go_wp2_with fail
      go_ret2
      exact ⟨rfl, hto⟩
end Go.Proofs.Ytheihohojmcbiaa
