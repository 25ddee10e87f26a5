/-
  The reference for layer 3: code, begins.
-/
import Derived.Test.YtheihohojmcbiaaPrefixMake
import Derived.Test.YtheihohojmcbiaaRef01
namespace Go.Mine
open Go.RowKit
theorem str_take (a : List UInt8) (n : Nat) : (str a).extract 0 n = str (a.take n) := by
  apply ByteArray.ext
  rw [ByteArray.data_extract]
  apply Array.ext'
  simp [str]
end Go.Mine
namespace Go.Proofs.Ytheihohojmcbiaa
open Go.RowKit Go.Mine

set_option maxRecDepth 100000 in
theorem rcode_any (w : World) (bs : List UInt8) (hl : bs.length ≤ 9223372036854775807) : Calls Try.prog 76 #[.string (str bs)] w fun e w' => e = .returned (.bool (codeB bs)) ∧ w = w' := by
  have hsz := str_size bs
  obtain ⟨n, hn⟩ : ∃ n, (str bs).size = n := ⟨_, rfl⟩
  have hl2 : n ≤ 9223372036854775807 := by omega
  have HB := Lib.hid (hsz.symm.trans hn)
  clear hsz hl
  go_enter Try.func76, Try.ntmps76
  go_wp2_with fail
  go_loop [3] (fun i => ∃ k : Nat, k ≤ n ∧ i = .int .i64 (k : Int) ∧ Hid (∀ j c, j < k → bs[j]? = some c → c = 48 ∨ c = 49)) (fun i => n - (intOf i).toNat)
  case atStart => exact ⟨0, by omega, rfl, Lib.hid (fun j c hj => absurd hj (by omega))⟩
  case round =>
    obtain ⟨k, hk, rfl, HZ⟩ := hrel
    by_cases hlt : k < n
    · have hks : k < (str bs).size := by omega
      have hkb : k < bs.length := by rw [HB.out]; omega
      have hget := str_at hks hkb
      by_cases hc : bs[k]'hkb = 48 ∨ bs[k]'hkb = 49
      · have HZ2 : Hid (∀ j c, j < k + 1 → bs[j]? = some c → c = 48 ∨ c = 49) := Lib.hid (fun j c hj hjc => by
          by_cases hjk : j = k
          · subst hjk; rw [List.getElem?_eq_getElem hkb] at hjc; injection hjc with hjc; rw [← hjc]; exact hc
          · exact HZ.out j c (by omega) hjc)
        rcases hc with hc | hc
        · have hv : (((str bs)[k]'hks).toNat : Int) = 48 := by rw [hget, hc]; rfl
          clear hget hc
          go_wp2_with fail
          go_round
          case rel => exact ⟨k + 1, by omega, by go_num, HZ2⟩
          case measure => simp [intOf]; omega
        · have hv : (((str bs)[k]'hks).toNat : Int) = 49 := by rw [hget, hc]; rfl
          clear hget hc
          go_wp2_with fail
          go_round
          case rel => exact ⟨k + 1, by omega, by go_num, HZ2⟩
          case measure => simp [intOf]; omega
      · have hv1 : ((((str bs)[k]'hks).toNat : Int) == 48) = false := by rw [hget]; simp; exact fun e => hc (.inl (UInt8.toNat_inj.1 (by simpa using (by omega : (bs[k]'hkb).toNat = 48))))
        have hv2 : ((((str bs)[k]'hks).toNat : Int) == 49) = false := by rw [hget]; simp; exact fun e => hc (.inr (UInt8.toNat_inj.1 (by simpa using (by omega : (bs[k]'hkb).toNat = 49))))
        have hv3 : ((((str bs)[k]'hks).toNat : Int) != 48) = true := by rw [bne, hv1]; rfl
        have hv4 : ((((str bs)[k]'hks).toNat : Int) != 49) = true := by rw [bne, hv2]; rfl
        have hcode : codeB bs = false := by
          rw [Bool.eq_false_iff]
          intro hcb
          exact hc (((codeB_iff bs).1 hcb).1 _ (List.getElem_mem hkb))
        clear hget hc
        go_wp2_with fail
        go_ret
        exact ⟨by first | rfl | rw [hcode], rfl⟩
    · have hbin : ∀ c ∈ bs, c = 48 ∨ c = 49 := fun c hc => by
        obtain ⟨j, hj⟩ := List.getElem?_of_mem hc
        have h1 := (List.getElem?_eq_some_iff.1 hj).1
        have h2 := HB.out
        exact HZ.out j c (by omega) hj
      have hcode : codeB bs = (decide (1 ≤ n) && decide (n ≤ 24)) := by
        rw [← HB.out, Bool.eq_iff_iff, codeB_iff]
        simp
        exact fun _ _ => hbin
      obtain rfl : k = n := by omega
      clear hbin HZ HB
      rcases Nat.eq_zero_or_pos k with h0 | h0
      · subst h0
        have h3 : codeB bs = false := hcode
        clear hcode
        go_wp2_with fail
        go_ret
        exact ⟨by first | rfl | rw [h3], rfl⟩
      · have h1 : decide ((1 : Int) ≤ (k : Int)) = true := decide_eq_true (by omega)
        have h2 : decide ((k : Int) ≤ 24) = decide (k ≤ 24) := by rw [decide_eq_decide]; omega
        have h3 : codeB bs = decide (k ≤ 24) := by rw [hcode, decide_eq_true (show 1 ≤ k from h0), Bool.true_and]
        clear hcode
        go_wp2_with fail
        go_ret
        exact ⟨by first | rfl | (rw [h3]; done) | (rw [h3]; rfl) | (simp; omega), rfl⟩

set_option maxRecDepth 100000 in
theorem rbegins_any (w : World) (a b : List UInt8) (ha0 : a.length ≤ 9223372036854775807) (hb0 : b.length ≤ 9223372036854775807) : Calls Try.prog 73 #[.string (str a), .string (str b)] w fun e w' => e = .returned (.bool (b.isPrefixOf a)) ∧ w = w' := by
  have hsa := str_size a
  have hsb := str_size b
  obtain ⟨r, hr⟩ : ∃ r, b.isPrefixOf a = r := ⟨_, rfl⟩
  rw [hr]
  obtain ⟨n, hn⟩ : ∃ n, a.length = n := ⟨_, rfl⟩
  obtain ⟨m, hm⟩ : ∃ m, b.length = m := ⟨_, rfl⟩
  have ha := ha0
  have hb := hb0
  rw [hn] at hsa ha
  rw [hm] at hsb hb
  by_cases hle : m ≤ n
  · have hx := str_take a m
    have hq := str_beq (a.take m) b
    have hres : r = decide (a.take m = b) := by
      rw [← hr, Bool.eq_iff_iff, List.isPrefixOf_iff_prefix, List.prefix_iff_eq_take, hm]
      simp
      exact eq_comm
    rw [← hres] at hq
    have hd : decide ((m : Int) ≤ (n : Int)) = true := decide_eq_true (by omega)
    clear hr hres
    go_enter Try.func73, Try.ntmps73
    go_wp2_with fail
    go_ret
    exact ⟨rfl, rfl⟩
  · have hd : decide ((m : Int) ≤ (n : Int)) = false := decide_eq_false (by omega)
    have hres : r = false := by
      rw [← hr, Bool.eq_false_iff]
      intro h
      have := (List.isPrefixOf_iff_prefix.1 h).length_le
      omega
    subst hres
    clear hr
    go_enter Try.func73, Try.ntmps73
    go_wp2_with fail
    go_ret
    exact ⟨rfl, rfl⟩
end Go.Proofs.Ytheihohojmcbiaa
