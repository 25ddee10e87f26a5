/-
  The reference's pen: Put, Bytes.
-/
import Derived.Test.YtejomjkkjcnfnaaRefPen01
namespace Go.Proofs.Ytejomjkkjcnfnaa
open Go.RowKit Go.Mine

set_option maxRecDepth 100000 in
theorem RPut_range (w : World) (p : Value) (n k : Int) (hn : n ≤ 9223372036854775807) (hb : k < 0 ∨ 32 < k ∨ n < 0 ∨ (0 ≤ k ∧ 2 ^ k.toNat ≤ n)) :
    Calls Try.prog 23 #[p, .int .i64 n, .int .i64 k] w fun e w' => e = .returned (.int .i64 3) ∧ w = w' := by
  by_cases h1 : k < 0
  · go_enter Try.func23, Try.ntmps23
    go_wp2
    go_ret
    exact ⟨rfl, rfl⟩
  · by_cases h2 : 32 < k
    · go_enter Try.func23, Try.ntmps23
      go_wp2
      go_ret
      exact ⟨rfl, rfl⟩
    · by_cases h3 : n < 0
      · go_enter Try.func23, Try.ntmps23
        go_wp2
        go_ret
        exact ⟨rfl, rfl⟩
      · obtain ⟨m, rfl⟩ := Int.eq_ofNat_of_zero_le (by omega : 0 ≤ n)
        obtain ⟨j, rfl⟩ := Int.eq_ofNat_of_zero_le (by omega : 0 ≤ k)
        have h4 : 2 ^ j ≤ m := by
          rcases hb with hb | hb | hb | hb
          · omega
          · omega
          · omega
          · have := hb.2; simp at this; exact_mod_cast this
        have hpw : 2 ^ j ≤ 2 ^ 32 := Nat.pow_le_pow_right (by omega) (by omega)
        obtain ⟨z, hz⟩ : ∃ z, 2 ^ j = z := ⟨_, rfl⟩
        have hzi : (2 : Int) ^ j = (z : Int) := by rw [← hz]; push_cast; rfl
        rw [hz] at h4 hpw
        have hu : IntKind.u64.wrap (j : Int) = (j : Int) := by rw [IntKind.wrap_u64]; omega
        have hwz : IntKind.i64.wrap (z : Int) = (z : Int) := by rw [IntKind.wrap_i64]; omega
        have hwz2 : wrap64 (z : Int) = (z : Int) := IntWalk.wrap64_in _ ⟨by omega, by omega⟩
        have HZ := Lib.hid (And.intro hz hb)
        clear hz hb
        go_enter Try.func23, Try.ntmps23
        go_wp2_with fail
        go_ret
        exact ⟨rfl, rfl⟩

set_option maxRecDepth 100000 in
set_option maxHeartbeats 1000000 in
theorem RPut_ok (w : World) {base b : Nat} {v : Value} {l : List Nat} (h : RPen w base b v l) (n k : Nat) (hk32 : k ≤ 32) (hn : n < 2 ^ k) (hl : l.length + k ≤ 16777216) (hbase : base ≤ w.heap.size) :
    Calls Try.prog 23 #[.pointer (some ⟨b, 0, none⟩), .int .i64 (n : Int), .int .i64 (k : Int)] w fun e w' => e = .returned (.int .i64 0) ∧ rAt w base b v l (bitsOf n k) (bitsOf n k).length w' := by
  obtain ⟨i0, hi0, hz0, hz1, hz2⟩ := info_parts Try.infoIntR
  have hd : decide ((16777216 : Int) < (l.length : Int) + (k : Int)) = false := decide_eq_false (by omega)
  obtain ⟨A, c, rfl, hc⟩ := h.sl.val
  have c0 := h.blk.cell (i := 0) rfl
  have hsm := h.small
  have h1 : ¬ (k : Int) < 0 := by omega
  have h2 : ¬ (32 : Int) < (k : Int) := by omega
  have h3 : ¬ (n : Int) < 0 := by omega
  have hpw : 2 ^ k ≤ 2 ^ 32 := Nat.pow_le_pow_right (by omega) hk32
  obtain ⟨z0, hz0'⟩ : ∃ z, 2 ^ k = z := ⟨_, rfl⟩
  have hzi : (2 : Int) ^ k = (z0 : Int) := by rw [← hz0']; push_cast; rfl
  rw [hz0'] at hn hpw
  have hle : decide (z0 ≤ n) = false := decide_eq_false (by omega)
  have hn64 : n < 4294967296 := by omega
  have hu : IntKind.u64.wrap (k : Int) = (k : Int) := by rw [IntKind.wrap_u64]; omega
  have hwz : IntKind.i64.wrap (z0 : Int) = (z0 : Int) := by rw [IntKind.wrap_i64]; omega
  have HL := Lib.hid (And.intro hl (And.intro hbase hz0'))
  have H := Lib.hid h
  clear hl h hbase hz0' hn
  go_enter Try.func23, Try.ntmps23
  go_wp2_with fail
  go_loopw [7] (fun i wr => ∃ j : Nat, j ≤ k ∧ i = .int .i64 ((k : Int) - 1 - (j : Int)) ∧ rAt w base b (.slice A l.length c) l (bitsOf n k) j wr) (fun i _ => (intOf i + 1).toNat)
  case atStart => exact ⟨0, by omega, by simp, _, by simpa using H.out, OnlyIn.refl _ _, fun g hg => .inl hg⟩
  case round =>
    obtain ⟨j, hj, rfl, v1, hP, hto, hown⟩ := hrel
    by_cases hlt2 : j < k
    · obtain ⟨s, hs⟩ : ∃ s, k - 1 - j = s := ⟨_, rfl⟩
      have hks : (k : Int) - 1 - (j : Int) = (s : Int) := by omega
      have hsh2 : ((n : Int) / 2 ^ s) = ((n / 2 ^ s : Nat) : Int) := by push_cast; rfl
      have hnz : n / 2 ^ s ≤ n := Nat.div_le_self _ _
      have hdj : j < (bitsOf n k).length := by rw [bitsOf_length]; exact hlt2
      have hdx : (bitsOf n k)[j]'hdj = n / 2 ^ s % 2 := by
        have := bitsOf_get n k j hlt2
        rw [List.getElem?_eq_getElem hdj, hs] at this
        injection this
      obtain ⟨z, hz⟩ : ∃ z, n / 2 ^ s = z := ⟨_, rfl⟩
      rw [hz] at hsh2 hnz hdx
      obtain ⟨x, hxz⟩ : ∃ x, z % 2 = x := ⟨_, rfl⟩
      rw [hxz] at hdx
      have hx2 : x < 2 := by omega
      have hrem : (z : Int).tmod 2 = (x : Int) := by rw [Int.tmod_eq_emod_of_nonneg (by omega)]; omega
      have hrem2 : (z : Int) % 2 = (x : Int) := by omega
      have hus : IntKind.u64.wrap (s : Int) = (s : Int) := by rw [IntKind.wrap_u64]; omega
      have hge : (0 : Int) ≤ (s : Int) := by omega
      have hs64 : (s : Int) ≤ 64 := by omega
      obtain ⟨M, hM⟩ : ∃ M, (l ++ (bitsOf n k).take j).length = M := ⟨_, rfl⟩
      have hsl := hP.sl
      rw [hM] at hsl
      obtain ⟨A1, c1, rfl, hc1⟩ := hsl.val
      have d0 := hP.blk.cell (i := 0) rfl
      have e0 := hP.blk.free 0
      have hblt := hP.blk.lt
      have hlen : M ≤ 16777216 := by rw [← hM]; exact hP.small
      have hbs : base ≤ wr.heap.size := Nat.le_trans HL.out.2.1 hto.size
      have HH := Lib.hid (And.intro hP (And.intro hto (And.intro hown (And.intro hdx (And.intro hM hs)))))
      have hne := hP.blk.ne_own hP.sl (by decide)
      have hblk := hP.blk
      clear hP hto hown hdx hM hz hxz hs
      rw [hks]
      go_wp2_with (at_builtin; refine wpList_append_sl rfl _ _ 40 rfl base 3 i0 _ 1 8 Try.underlying40 hi0 hz0 hz1 hz2 rfl (by decide) (.slice A1 M c1) _ _ rfl (hsl.alloc (.cells #[.int .i64 (x : Int)] 3)) (.slice (some ⟨wr.heap.size, 0, none⟩) 1 1) 1 [.int .i64 (x : Int)] rfl (Rd.lit wr [.int .i64 (x : Int)] 3 1 rfl) (by simp [Value.oneCell']) (by simp only [maxLen]; omega) (by omega) (by simp; omega) ?_; intro v2 w2 hs2 hg2 hat2; obtain ⟨A2, c2, rfl, hc2⟩ := hs2.val; have hb2 : Blk w2 b 42 _ := (hblk.alloc _).grown hg2 hne; have k0 := hb2.cell (i := 0) rfl; have k1 := hb2.free 0; obtain ⟨hP, hto, hown, hdx, hM, hs⟩ := HH.out; have hR := r_step ((OnlyIn.refl [] wr).alloc (.cells #[.int .i64 (x : Int)] 3)) hdj (bitsOf_bin n k) hP hto hown (by have := HL.out.1; rw [bitsOf_length]; exact this) (by rw [hM, hdx]; exact hs2) hg2 hat2; have HR := Lib.hid hR; have HS := Lib.hid hs; clear hP hto hown hdx hM hR hs2 hg2 hat2 HH hsl hblk hne hb2 hs)
      go_roundw
      case rel =>
        have := HS.out
        exact ⟨j + 1, by omega, by congr 1; omega, HR.out⟩
      case measure => simp [intOf]; try omega
    · obtain rfl : j = k := by omega
      have hneg : ¬ (0 : Int) ≤ (j : Int) - 1 - (j : Int) := by omega
      have HR := Lib.hid (show rAt w base b (.slice A l.length c) l (bitsOf n j) (bitsOf n j).length wr from by
        rw [bitsOf_length]; exact ⟨v1, hP, hto, hown⟩)
      clear hP hto hown
      go_wp2_with fail
      go_ret
      exact ⟨rfl, HR.out⟩
end Go.Proofs.Ytejomjkkjcnfnaa
