/-
  Package group: number, spare.
-/
import Derived.Test.YtejomjkkjcnfnaaText2
namespace Go.Proofs.Ytejomjkkjcnfnaa
open Go.RowKit Go.Mine

set_option maxRecDepth 100000 in
/-- '(t text).number(n, many)'. -/
theorem gnumber_any (w : World) (p : List UInt8) (n k : Nat) (hn : n < 4294967296) (hk : k ≤ 64) (hp : p.length ≤ 1000000) :
    Calls Try.prog 64 #[.string (str p), .int .i64 (n : Int), .int .i64 (k : Int)] w fun e w' => e = .returned (.string (str (p ++ txt (bitsOf n k)))) ∧ w = w' := by
  go_enter Try.func64, Try.ntmps64
  go_wp2_with fail
  go_loopw [0, 7] (fun t i wr => ∃ j : Nat, j ≤ k ∧ i = .int .i64 ((k : Int) - 1 - (j : Int)) ∧ t = .string (str (p ++ txt ((bitsOf n k).take j))) ∧ w = wr) (fun _ i _ => (intOf i + 1).toNat)
  case atStart => exact ⟨0, by omega, by simp, by simp [txt], rfl⟩
  case round =>
    obtain ⟨j, hj, rfl, rfl, rfl⟩ := hrel
    by_cases hlt : j < k
    · obtain ⟨s, hs⟩ : ∃ s, k - 1 - j = s := ⟨_, rfl⟩
      have hks : (k : Int) - 1 - (j : Int) = (s : Int) := by omega
      have hsh2 : ((n : Int) / 2 ^ s) = ((n / 2 ^ s : Nat) : Int) := by push_cast; rfl
      have htk := bitsOf_take n k j hlt
      rw [hs] at htk
      have hnz : n / 2 ^ s ≤ n := Nat.div_le_self _ _
      obtain ⟨z, hz⟩ : ∃ z, n / 2 ^ s = z := ⟨_, rfl⟩
      rw [hz] at hsh2 htk hnz
      have hand := and1 z (by omega)
      obtain ⟨q, hq⟩ : ∃ q, p ++ txt ((bitsOf n k).take j) = q := ⟨_, rfl⟩
      have hql : q.length ≤ 1000100 := by rw [← hq, List.length_append, txt_length, List.length_take, bitsOf_length]; omega
      have hq2 : p ++ txt ((bitsOf n k).take (j + 1)) = q ++ [UInt8.ofNat (48 + z % 2)] := by rw [htk, txt_append, ← List.append_assoc, hq]; rfl
      obtain ⟨x, hx⟩ : ∃ x, z % 2 = x := ⟨_, rfl⟩
      have hx2 : x < 2 := by omega
      rw [hx] at hq2 hand
      have hadd := fun w => run_add_str (P := Try.prog) w q [UInt8.ofNat (48 + x)] (by simp; omega)
      rw [← encode_dig x hx2] at hadd
      obtain ⟨ch, hch⟩ : ∃ ch, UInt8.ofNat (48 + x) = ch := ⟨_, rfl⟩
      rw [hch] at hadd hq2
      clear hch
      have HS := Lib.hid (And.intro hs hq2)
      rw [hq]
      have hge : (0 : Int) ≤ (s : Int) := by omega
      have hw1 : IntKind.i64.wrap (48 + (x : Int)) = 48 + (x : Int) := by rw [IntKind.wrap_i64]; omega
      have hw2 : IntKind.i32.wrap (48 + (x : Int)) = 48 + (x : Int) := by rw [IntKind.wrap_i32]; omega
      clear htk hz hs hq hq2 hx
      rw [hks]
      go_wp2_with fail
      go_roundw
      case rel =>
        obtain ⟨hs, hq2⟩ := HS.out
        exact ⟨j + 1, by omega, by congr 1; omega, by rw [hq2], by first | rfl | trivial⟩
      case measure => simp [intOf]; try omega
    · obtain rfl : j = k := by omega
      have hneg : ¬ (0 : Int) ≤ (j : Int) - 1 - (j : Int) := by omega
      go_wp2_with fail
      go_ret
      rw [List.take_of_length_le (by rw [bitsOf_length]; exact Nat.le_refl _)]
      exact ⟨rfl, rfl⟩

set_option maxRecDepth 100000 in
/-- '(t text).spare(l)'. -/
theorem gspare_any (w : World) (v : Value) (p bs : List UInt8) (hr : Rd w 1 v bs.length (byteCells bs)) (hp : p.length ≤ 1000) (hl : bs.length ≤ 1000) :
    Calls Try.prog 65 #[.string (str p), v] w fun e w' => e = .returned (.string (str (p ++ txt (spareBits bs)))) ∧ w = w' := by
  have hr' := hr
  obtain ⟨-, A, c, rfl, hc, hA⟩ := hr'
  clear hA
  have HR := Lib.hid hr
  clear hr
  go_enter Try.func65, Try.ntmps65
  go_wp2_with fail
  go_loopw [0, 9] (fun t i wr => ∃ k : Nat, k ≤ bs.length ∧ i = .int .i64 (k : Int) ∧ t = .string (str (p ++ txt ((bs.take k).flatMap spareOne))) ∧ w = wr) (fun _ i _ => bs.length - (intOf i).toNat)
  case atStart => exact ⟨0, by omega, rfl, by simp [txt], rfl⟩
  case round =>
    obtain ⟨k, hk, rfl, rfl, rfl⟩ := hrel
    by_cases hlt : k < bs.length
    · obtain ⟨g, off, cap, hv, q0⟩ := Rd.atB HR.out hlt
      injection hv with hv _ hcc
      subst hv hcc
      have hst := spares_take hlt
      obtain ⟨x, hx⟩ : ∃ x, bs[k]'hlt = x := ⟨_, rfl⟩
      obtain ⟨q, hq⟩ : ∃ q, p ++ txt ((bs.take k).flatMap spareOne) = q := ⟨_, rfl⟩
      have hql : q.length ≤ 10000 := by rw [← hq, List.length_append, txt_length, flat9, List.length_take]; omega
      have hq2 : p ++ txt ((bs.take (k + 1)).flatMap spareOne) = (q ++ txt (bitsOf 1 1)) ++ txt (bitsOf x.toNat 8) := by rw [hst, hx, txt_append, ← List.append_assoc, hq, List.append_assoc, ← txt_append]; rfl
      have hx8 : x.toNat < 256 := UInt8.toNat_lt x
      have h1 := fun w => gnumber_any w q 1 1 (by omega) (by omega) (by omega)
      have h2 := fun w => gnumber_any w (q ++ txt (bitsOf 1 1)) x.toNat 8 (by omega) (by omega) (by rw [List.length_append, txt_length, bitsOf_length]; omega)
      rw [hq]
      rw [hx] at q0
      have hmeas : bs.length - (k + 1) < bs.length - k := by omega
      obtain ⟨n8, hn8⟩ : ∃ n8, x.toNat = n8 := ⟨_, rfl⟩
      rw [hn8] at q0 h2 hq2 hx8
      have hw1 : IntKind.i64.wrap (n8 : Int) = (n8 : Int) := by rw [IntKind.wrap_i64]; omega
      obtain ⟨r, hr⟩ : ∃ r, q ++ txt (bitsOf 1 1) = r := ⟨_, rfl⟩
      rw [hr] at h1 h2 hq2
      obtain ⟨r2, hr2⟩ : ∃ r2, r ++ txt (bitsOf n8 8) = r2 := ⟨_, rfl⟩
      rw [hr2] at h2 hq2
      have HQ := Lib.hid (And.intro hq2 hlt)
      clear hst hq hq2 hx hn8 hr hr2
      have tok : True := trivial
      go_wp2_with (first | (go_at_call 64; have _t := tok; refine (h1 _).mono ?_; rintro e w1 ⟨rfl, rfl⟩; clear tok _t) | (go_at_call 64; refine (h2 _).mono ?_; rintro e w1 ⟨rfl, rfl⟩))
      go_roundw
      case rel =>
        obtain ⟨hq2, hlt⟩ := HQ.out
        exact ⟨k + 1, by omega, by go_num, by rw [hq2], by first | rfl | trivial⟩
      case measure => simp [intOf]; exact hmeas
    · obtain rfl : k = bs.length := by omega
      rw [List.take_of_length_le (Nat.le_refl _)]
      obtain ⟨q, hq⟩ : ∃ q, p ++ txt (bs.flatMap spareOne) = q := ⟨_, rfl⟩
      have hql : q.length ≤ 10000 := by rw [← hq, List.length_append, txt_length, flat9]; omega
      have h1 := gnumber_any w q 0 1 (by omega) (by omega) (by omega)
      have HQ := Lib.hid hq
      rw [hq]
      clear hq
      go_wp2_with (go_at_call 64; refine h1.mono ?_; rintro e w1 ⟨rfl, rfl⟩)
      go_ret
      refine ⟨?_, rfl⟩
      rw [← HQ.out, spareBits, txt_append, ← List.append_assoc]
      rfl

end Go.Proofs.Ytejomjkkjcnfnaa
