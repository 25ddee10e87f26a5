/-
  Law 06: VectorBack: the walk.
-/
import Derived.Test.YtheihohojmcbiaaVecBytes
import Derived.Test.YtheihohojmcbiaaMadeSpec
import Derived.Test.YtheihohojmcbiaaBackSpec
import Derived.Test.YtheihohojmcbiaaRef03
import Derived.Test.YtheihohojmcbiaaKit
import Derived.BigQuiet
namespace Go.Mine
open Go.RowKit
theorem vget {n : Nat} (h : n < 32) : vcodes[n]? = some (vc ((n : Int) - 16)) ∧ vnums[n]? = some ((n : Int) - 16) := by
  have h2 : ∀ k : Nat, k < 32 → vnums[k]? = some ((k : Int) - 16) := by decide
  refine ⟨?_, h2 n h⟩
  unfold vc
  rw [show ((n : Int) - 16 + 16).toNat = n by omega, List.getD_eq_getElem?_getD, List.getElem?_eq_getElem (show n < vcodes.length from h)]
  rfl
theorem vsame0 : (List.range 32).all (fun i => (List.range 32).all fun j => sameTo (vcodes.getD i []) (vcodes.getD j []) == decide (i = j)) = true := by decide +kernel
theorem vlen0 : (List.range 32).all (fun i => codeB (vcodes.getD i []) && decide ((vcodes.getD i []).length ≤ 11)) = true := by decide +kernel
theorem vc_at (i : Nat) : vc ((i : Int) - 16) = vcodes.getD i [] := by
  unfold vc
  rw [show ((i : Int) - 16 + 16).toNat = i by omega]
theorem vsame {i j : Nat} (hi : i < 32) (hj : j < 32) : sameTo (vc ((i : Int) - 16)) (vc ((j : Int) - 16)) = decide (i = j) := by
  have h := List.all_eq_true.1 (List.all_eq_true.1 vsame0 i (List.mem_range.2 hi)) j (List.mem_range.2 hj)
  rw [vc_at, vc_at]
  exact eq_of_beq h
theorem vlen {i : Nat} (hi : i < 32) : codeB (vc ((i : Int) - 16)) = true ∧ (vc ((i : Int) - 16)).length ≤ 11 := by
  have h := List.all_eq_true.1 vlen0 i (List.mem_range.2 hi)
  rw [vc_at]
  simpa using h
end Go.Mine
namespace Go.Proofs.Ytheihohojmcbiaa
open Go.RowKit Go.Mine

set_option maxRecDepth 100000 in
set_option maxHeartbeats 4000000 in
theorem VectorBack_walk {w : World} (a : Int) (ha : -9223372036854775808 ≤ a ∧ a ≤ 9223372036854775807) (b : Int) (hb : -9223372036854775808 ≤ b ∧ b ≤ 9223372036854775807)
    (y : Value × List Int) (hy : Rd w 1 y.1 y.2.length (intCells y.2) ∧ (∀ z ∈ y.2, -9223372036854775808 ≤ z ∧ z ≤ 9223372036854775807) ∧ y.2.length ≤ maxLen) :
    Calls Try.prog 11 #[.int .i64 a, .int .i64 b, y.1] w fun e w' => e = .returned (.bool true) ∧ OnlyIn [] w w' := by
  obtain ⟨nv, ns⟩ := y
  obtain ⟨hrn, hnb, hnl⟩ := hy
  simp only at hrn hnb hnl ⊢
  simp only [maxLen] at hnl
  obtain ⟨E, f, rfl, hff⟩ : ∃ A c, nv = .slice A ns.length c ∧ ns.length ≤ c := by
    obtain ⟨-, A, c, h1, h2, -⟩ := hrn; exact ⟨A, c, h1, h2⟩
  have hkn := known06 w
  have hpa := fun w9 => Pick_any a 32 w9 (by omega) (by omega) ha.1 ha.2
  have hpb := fun w9 => Pick_any b 32 w9 (by omega) (by omega) hb.1 hb.2
  obtain ⟨i, hi⟩ : ∃ i : Nat, a % 32 = (i : Int) := Int.eq_ofNat_of_zero_le (Int.emod_nonneg _ (by omega))
  obtain ⟨j, hj⟩ : ∃ j : Nat, b % 32 = (j : Int) := Int.eq_ofNat_of_zero_le (Int.emod_nonneg _ (by omega))
  have hi32 : i < 32 := by have := Int.emod_lt_of_pos a (show (0 : Int) < 32 by omega); omega
  have hj32 : j < 32 := by have := Int.emod_lt_of_pos b (show (0 : Int) < 32 by omega); omega
  rw [hi] at hpa
  rw [hj] at hpb
  by_cases h60 : 60 < ns.length
  · have hd : decide ((60 : Int) < (ns.length : Int)) = true := by simp; omega
    clear hrn hnb hi hj ha hb
    go_enter Try.func11, Try.ntmps11
    go_wp2_with (first | (go_at_call 10; refine hkn.mono ?_; rintro e w1 ⟨rfl, ht1⟩; clear hkn) | (go_at_call 26; refine (hpa _).mono ?_; rintro e w2 ⟨rfl, rfl⟩; clear hpa) | (go_at_call 26; refine (hpb _).mono ?_; rintro e w3 ⟨rfl, rfl⟩))
    go_ret
    exact ⟨rfl, ht1⟩
  have hd1 : decide ((60 : Int) < (ns.length : Int)) = false := by simp; omega
  have hsm := vsame hi32 hj32
  obtain ⟨hs1, hs2⟩ := vlen hi32
  obtain ⟨ht1, ht2⟩ := vlen hj32
  have hpi := fun w9 => vPut_any w9 ((i : Int) - 16)
  have hpj := fun w9 => vPut_any w9 ((j : Int) - 16)
  have hvi : vputF ((i : Int) - 16) = (str (vc ((i : Int) - 16)), 0) := by unfold vputF; rw [if_pos (by omega)]
  have hvj : vputF ((j : Int) - 16) = (str (vc ((j : Int) - 16)), 0) := by unfold vputF; rw [if_pos (by omega)]
  rw [hvi] at hpi
  rw [hvj] at hpj
  simp only at hpi hpj
  have hgs := vget hi32
  obtain ⟨s, hsv⟩ : ∃ s, vc ((i : Int) - 16) = s := ⟨_, rfl⟩
  obtain ⟨t, htv⟩ : ∃ t, vc ((j : Int) - 16) = t := ⟨_, rfl⟩
  rw [hsv] at hsm hs1 hs2 hpi hgs
  rw [htv] at hsm ht1 ht2 hpj
  have hcs := (codeB_iff s).1 hs1
  have hct := (codeB_iff t).1 ht1
  have hbs : ∀ c ∈ s, c = 48 ∨ c = 49 := hcs.1
  have hbt : ∀ c ∈ t, c = 48 ∨ c = 49 := hct.1
  have hco := fun w9 => code06_any w9 s hbs hcs.2.1 hs2
  have hco2 := fun w9 => code06_any w9 t hbt hct.2.1 ht2
  have hby := fun w9 (ho : OnlyIn [] w w9) => bytes06_any w9 s hbs hs2 (.slice E ns.length f) ns (hrn.cells fun p u hp => ho.cell hp (by simp)) (by omega) hnb
  have hbin : Bin (digs s ++ odds ns) := (digs_bin hbs).append (odds_bin ns)
  have hhit := get_hit (t := VT) (by decide) vcodes_ok vbuild hgs.1 hgs.2 (pack_code (l1 := []) (l2 := odds ns) (BinT.of_code hs1) (by simpa using hbin))
  simp only [List.nil_append, List.length_nil] at hhit
  obtain ⟨bs, hbsv⟩ : ∃ bs, pack (digs s ++ odds ns) = bs := ⟨_, rfl⟩
  have hbl : bs.length ≤ 1000 := by rw [← hbsv, pack_length, List.length_append, digs_length, odds_length]; omega
  rw [hbsv] at hhit hby
  have hgt : getT VT bs 0 = ((i : Int) - 16, (s.length : Int), 0) := by
    unfold getT
    rw [if_neg (by omega)]
    exact hhit
  have hge := fun w9 v (hr : Rd w9 1 v bs.length (byteCells bs)) => gets06_yes w9 v bs hr (by omega) _ _ _ hgt
  have hss := str_size s
  have hts := str_size t
  obtain ⟨Bl, hBl⟩ : ∃ Bl, decide (i = j) = Bl := ⟨_, rfl⟩
  have hij : ((i : Int) - 16 == (j : Int) - 16) = Bl := by rw [← hBl]; by_cases h : i = j <;> simp [h]; omega
  have hBB : (Bl == Bl) = true := by simp
  rw [hBl] at hsm
  obtain ⟨y, hyv⟩ : ∃ y, s.length = y := ⟨_, rfl⟩
  obtain ⟨m, hmv⟩ : ∃ m, t.length = m := ⟨_, rfl⟩
  unfold sameTo at hsm
  rw [hyv] at hss hs2 hsm hge
  rw [hmv] at hts ht2 hsm
  obtain ⟨M, hM⟩ : ∃ M, ns.length = M := ⟨_, rfl⟩
  rw [hM] at hnl hff h60 hd1 hby ⊢
  obtain ⟨NB, hNB⟩ : ∃ NB, bs.length = NB := ⟨_, rfl⟩
  rw [hNB] at hby hge
  clear hrn hnb hi hj ha hb hs1 ht1 hvi hvj hgs hsv htv hcs hct hbs hbt hbin hhit hbsv hbl hgt hBl hyv hmv hM hNB
  rcases Nat.lt_trichotomy y m with hym | hym | hym
  · have dlt : decide ((y : Int) < (m : Int)) = true := decide_eq_true (by omega)
    have dle : decide ((y : Int) ≤ (m : Int)) = true := decide_eq_true (by omega)
    have dgt : decide ((m : Int) < (y : Int)) = false := decide_eq_false (by omega)
    have hx1 := str_take s y
    have hx2 := str_take t y
    have hq2 := str_beq (s.take y) (t.take y)
    rw [Nat.min_eq_left (by omega)] at hsm
    rw [hsm] at hq2
    have hle : y ≤ m := by omega
    clear hsm
    go_enter Try.func11, Try.ntmps11
    go_wp2_with (first | (go_at_call 10; refine hkn.mono ?_; rintro e w1 ⟨rfl, ho1⟩; clear hkn) | (go_at_call 26; refine (hpa _).mono ?_; rintro e w2 ⟨rfl, rfl⟩; clear hpa) | (go_at_call 26; refine (hpb _).mono ?_; rintro e w3 ⟨rfl, rfl⟩; clear hpb) | (go_at_call 34; refine (hpi _).mono ?_; rintro e w4 ⟨rfl, rfl⟩; clear hpi) | (go_at_call 34; refine (hpj _).mono ?_; rintro e w5 ⟨rfl, rfl⟩; clear hpj) | (go_at_call 46; refine (hco _).mono ?_; rintro e w6 ⟨rfl, rfl⟩; clear hco) | (go_at_call 46; refine (hco2 _).mono ?_; rintro e w7 ⟨rfl, rfl⟩; clear hco2) | (go_at_call 47; refine (hby _ ho1).mono ?_; rintro e w8 ⟨u, rfl, hu, ho8⟩; clear hby) | (go_at_call 42; refine (hge _ _ hu).mono ?_; rintro e w9 ⟨rfl, ho9⟩; clear hge))
    have HO := Lib.hid ((ho1.trans ho8).trans ho9)
    clear ho1 ho8 ho9 hu
    go_quiet (fail)
    go_wp2_with fail
    go_ret
    exact ⟨by simp, HO.out.drewN _⟩
  · obtain rfl : y = m := by omega
    have hx1 := str_take s y
    have hx2 := str_take t y
    have hq2 := str_beq (s.take y) (t.take y)
    rw [Nat.min_eq_left (by omega)] at hsm
    rw [hsm] at hq2
    have hle : y ≤ y := by omega
    clear hsm
    go_enter Try.func11, Try.ntmps11
    go_wp2_with (first | (go_at_call 10; refine hkn.mono ?_; rintro e w1 ⟨rfl, ho1⟩; clear hkn) | (go_at_call 26; refine (hpa _).mono ?_; rintro e w2 ⟨rfl, rfl⟩; clear hpa) | (go_at_call 26; refine (hpb _).mono ?_; rintro e w3 ⟨rfl, rfl⟩; clear hpb) | (go_at_call 34; refine (hpi _).mono ?_; rintro e w4 ⟨rfl, rfl⟩; clear hpi) | (go_at_call 34; refine (hpj _).mono ?_; rintro e w5 ⟨rfl, rfl⟩; clear hpj) | (go_at_call 46; refine (hco _).mono ?_; rintro e w6 ⟨rfl, rfl⟩; clear hco) | (go_at_call 46; refine (hco2 _).mono ?_; rintro e w7 ⟨rfl, rfl⟩; clear hco2) | (go_at_call 47; refine (hby _ ho1).mono ?_; rintro e w8 ⟨u, rfl, hu, ho8⟩; clear hby) | (go_at_call 42; refine (hge _ _ hu).mono ?_; rintro e w9 ⟨rfl, ho9⟩; clear hge))
    have HO := Lib.hid ((ho1.trans ho8).trans ho9)
    clear ho1 ho8 ho9 hu
    go_quiet (fail)
    go_wp2_with fail
    go_ret
    exact ⟨by simp, HO.out.drewN _⟩
  · have dlt : decide ((y : Int) < (m : Int)) = false := decide_eq_false (by omega)
    have dle : decide ((y : Int) ≤ (m : Int)) = false := decide_eq_false (by omega)
    have dgt : decide ((m : Int) < (y : Int)) = true := decide_eq_true (by omega)
    have hx1 := str_take s m
    have hx2 := str_take t m
    have hq2 := str_beq (s.take m) (t.take m)
    rw [Nat.min_eq_right (by omega)] at hsm
    rw [hsm] at hq2
    have hle : m ≤ y := by omega
    clear hsm
    go_enter Try.func11, Try.ntmps11
    go_wp2_with (first | (go_at_call 10; refine hkn.mono ?_; rintro e w1 ⟨rfl, ho1⟩; clear hkn) | (go_at_call 26; refine (hpa _).mono ?_; rintro e w2 ⟨rfl, rfl⟩; clear hpa) | (go_at_call 26; refine (hpb _).mono ?_; rintro e w3 ⟨rfl, rfl⟩; clear hpb) | (go_at_call 34; refine (hpi _).mono ?_; rintro e w4 ⟨rfl, rfl⟩; clear hpi) | (go_at_call 34; refine (hpj _).mono ?_; rintro e w5 ⟨rfl, rfl⟩; clear hpj) | (go_at_call 46; refine (hco _).mono ?_; rintro e w6 ⟨rfl, rfl⟩; clear hco) | (go_at_call 46; refine (hco2 _).mono ?_; rintro e w7 ⟨rfl, rfl⟩; clear hco2) | (go_at_call 47; refine (hby _ ho1).mono ?_; rintro e w8 ⟨u, rfl, hu, ho8⟩; clear hby) | (go_at_call 42; refine (hge _ _ hu).mono ?_; rintro e w9 ⟨rfl, ho9⟩; clear hge))
    have HO := Lib.hid ((ho1.trans ho8).trans ho9)
    clear ho1 ho8 ho9 hu
    go_quiet (fail)
    go_wp2_with fail
    go_ret
    exact ⟨by simp, HO.out.drewN _⟩
end Go.Proofs.Ytheihohojmcbiaa
