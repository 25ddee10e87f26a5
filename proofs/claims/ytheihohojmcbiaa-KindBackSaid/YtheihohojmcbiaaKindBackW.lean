/-
  Law 05: KindBack: the walk.
-/
import Derived.Test.YtheihohojmcbiaaLaw05
import Derived.Test.YtheihohojmcbiaaTreeSpec
import Derived.Test.YtheihohojmcbiaaPenR
import Derived.Test.YtheihohojmcbiaaKit
namespace Go.Mine
open Go.RowKit
theorem kget {n : Nat} (h : n < 10) : kcodes[n]? = some (kcodes.getD n []) ∧ knums[n]? = some ((n : Int) + 1) := by
  rcases (by omega : n = 0 ∨ n = 1 ∨ n = 2 ∨ n = 3 ∨ n = 4 ∨ n = 5 ∨ n = 6 ∨ n = 7 ∨ n = 8 ∨ n = 9) with rfl | rfl | rfl | rfl | rfl | rfl | rfl | rfl | rfl | rfl <;> exact ⟨rfl, rfl⟩
theorem kput {n : Nat} (h : n < 10) : told kz ((n : Int) + 1) = some (str (kcodes.getD n [])) := told_at (by decide) (by decide) (kget h).1 (kget h).2
end Go.Mine
namespace Go.Proofs.Ytheihohojmcbiaa
open Go.RowKit Go.Mine

set_option maxRecDepth 100000 in
theorem kputOf {n : Nat} (h : n < 10) : putOf (told kz) ((n : Int) + 1) = (str (kcodes.getD n []), 0) := by unfold putOf; rw [kput h]

set_option maxRecDepth 100000 in
set_option maxHeartbeats 4000000 in
theorem KindBack_walk {w : World} (y : Value × List Int) (hy : Rd w 1 y.1 y.2.length (intCells y.2) ∧ (∀ z ∈ y.2, -9223372036854775808 ≤ z ∧ z ≤ 9223372036854775807) ∧ y.2.length ≤ maxLen) (ah : Int) (hah : -9223372036854775808 ≤ ah ∧ ah ≤ 9223372036854775807) :
    Calls Try.prog 7 #[y.1, .int .i64 ah] w fun e w' => e = .returned (.bool true) ∧ OnlyIn [] w w' := by
  obtain ⟨nv, ns⟩ := y
  obtain ⟨hrn, hnb, hnl⟩ := hy
  simp only at hrn hnb hnl ⊢
  simp only [maxLen] at hnl
  obtain ⟨E, f, rfl, hff, hcellN⟩ : ∃ A c, nv = .slice A ns.length c ∧ ns.length ≤ c ∧ ∀ k, k < ns.length → ∃ g off, A = some ⟨g, off, none⟩ ∧ w.cell? ⟨g, off + k, none⟩ = some (.int .i64 (ns.getD k 0)) := by
    obtain ⟨-, A, c, h1, h2, hA⟩ := hrn
    refine ⟨A, c, h1, h2, fun k hk => ?_⟩
    obtain ⟨g, off, e1, e2⟩ := hA (by omega)
    refine ⟨g, off, e1, ?_⟩
    rw [List.getD_eq_getElem?_getD, List.getElem?_eq_getElem hk]
    exact e2 k _ (intCells_get hk)
  have hkn := known05 w
  have hnp := fun w1 (ho : OnlyIn [] w w1) => NewPen_R w w1 ho
  by_cases h60 : 60 < ns.length
  · have hd : decide ((60 : Int) < (ns.length : Int)) = true := by simp; omega
    clear hrn hnb hcellN
    go_enter Try.func7, Try.ntmps7
    go_wp2_with (first | (go_at_call 5; refine hkn.mono ?_; rintro e w1 ⟨rfl, ht⟩) | (go_at_call 25; refine (hnp _ ht).mono ?_; rintro e w4 ⟨pb, rfl, hPR⟩))
    go_ret
    exact ⟨rfl, hPR.only⟩
  have hd1 : decide ((60 : Int) < (ns.length : Int)) = false := by simp; omega
  obtain ⟨M, hM⟩ : ∃ M, ns.length = M := ⟨_, rfl⟩
  rw [hM] at hcellN
  have HP := Lib.hid (And.intro hcellN (And.intro hM hnb))
  rw [hM] at hnl hff h60 hd1 ⊢
  clear hM hrn hcellN hnb
  have hpa := fun w9 => Pick_any ah 41 w9 (by omega) (by omega) hah.1 hah.2
  obtain ⟨A0, hA0⟩ : ∃ A0 : Nat, ah % 41 = (A0 : Int) := Int.eq_ofNat_of_zero_le (Int.emod_nonneg _ (by omega))
  have hA41 : A0 < 41 := by have := Int.emod_lt_of_pos ah (show (0 : Int) < 41 by omega); omega
  rw [hA0] at hpa
  clear hA0
  go_enter Try.func7, Try.ntmps7
  go_wp2_with (first | (go_at_call 5; refine hkn.mono ?_; rintro e w1 ⟨rfl, ht⟩; clear hkn) | (go_at_call 25; refine (hnp _ ht).mono ?_; rintro e w4 ⟨pb, rfl, hPR⟩; clear hnp) | (go_at_call 26; refine (hpa _).mono ?_; rintro e w5 ⟨rfl, rfl⟩; clear hpa))
  clear ht
  obtain ⟨l, hl⟩ : ∃ l : List Nat, l = ns.map (pickN 10) := ⟨_, rfl⟩
  have hll : l.length = M := by rw [hl, List.length_map, HP.out.2.1]
  have hlk : ∀ k, k < M → ns.getD k 0 % 10 = (l.getD k 0 : Int) ∧ l.getD k 0 < 10 ∧ (-9223372036854775808 ≤ ns.getD k 0 ∧ ns.getD k 0 ≤ 9223372036854775807) := fun k hk => by
    have hkn : k < ns.length := by rw [HP.out.2.1]; exact hk
    have e1 : ns.getD k 0 = ns[k]'hkn := by rw [List.getD_eq_getElem?_getD, List.getElem?_eq_getElem hkn]; rfl
    have e2 : l.getD k 0 = pickN 10 (ns[k]'hkn) := by rw [hl, List.getD_eq_getElem?_getD, List.getElem?_map, List.getElem?_eq_getElem hkn]; rfl
    rw [e1, e2]
    exact ⟨pickN_eq (by decide) _, pickN_lt (by decide) _, HP.out.2.2 _ (List.getElem_mem hkn)⟩
  have HLL := Lib.hid (And.intro hll hlk)
  clear hl hll hlk
  go_loopw [7] (fun i wr => ∃ (k : Nat) (L0 : List Nat), k ≤ A0 ∧ i = .int .i64 (k : Int) ∧ PenR w wr pb L0 ∧ L0.length = k) (fun i _ => A0 - (intOf i).toNat)
  case atStart => exact ⟨0, [], by omega, rfl, hPR, rfl⟩
  case round =>
    clear hPR
    obtain ⟨k, L0, hk, rfl, hPR, hL0⟩ := hrel
    by_cases hkA : k < A0
    · have hpp := Put_R hPR (k % 2) 1 (by omega) (by omega) (by omega)
      have htm : (k : Int).tmod 2 = ((k % 2 : Nat) : Int) := by rw [Int.tmod_eq_emod_of_nonneg (by omega)]; omega
      have hem : (k : Int) % 2 = ((k % 2 : Nat) : Int) := by omega
      obtain ⟨x, hx⟩ : ∃ x, k % 2 = x := ⟨_, rfl⟩
      rw [hx] at hpp htm hem
      have hbl : (bitsOf x 1).length = 1 := bitsOf_length x 1
      have hlen : (L0 ++ bitsOf x 1).length = k + 1 := by rw [List.length_append, hL0, hbl]
      have HN := Lib.hid hlen
      clear hx hlen hbl hPR hL0
      go_wp2_with (go_at_call 27; refine hpp.mono ?_; rintro e w6 ⟨rfl, hP6⟩)
      go_roundw
      case rel => exact ⟨k + 1, _, by omega, by go_num, hP6, HN.out⟩
      case measure => simp [intOf]; omega
    · obtain rfl : A0 = k := by omega
      go_wp2_with fail
      go_loopw [8, 9, 10] (fun i _ _ wr => ∃ k : Nat, k ≤ M ∧ i = .int .i64 (k : Int) ∧ PenR w wr pb (L0 ++ wrote kcodes (l.take k))) (fun i _ _ _ => M - (intOf i).toNat)
      case atStart => exact ⟨0, by omega, rfl, by simpa [wrote] using hPR⟩
      case round =>
        clear hPR
        obtain ⟨k, hk, rfl, hPR⟩ := hrel
        have hon := hPR.only
        by_cases hkM : k < M
        · obtain ⟨h1, h2, h3⟩ := HLL.out.2 k hkM
          obtain ⟨g2, off2, rfl, c1⟩ := HP.out.1 k hkM
          have c1 := hon.cell c1 (by simp)
          have hpk := fun w9 => Pick_any (ns.getD k 0) 10 w9 (by omega) (by omega) h3.1 h3.2
          rw [h1] at hpk
          obtain ⟨X, hX⟩ : ∃ X, ns.getD k 0 = X := ⟨_, rfl⟩
          rw [hX] at hpk c1
          obtain ⟨n, hn⟩ : ∃ n, l.getD k 0 = n := ⟨_, rfl⟩
          rw [hn] at hpk h2
          have hkl : k < l.length := by rw [HLL.out.1]; exact hkM
          have hln : l[k]'hkl = n := by rw [← hn, List.getD_eq_getElem?_getD, List.getElem?_eq_getElem hkl]; rfl
          have hput := fun w9 => kPut_any w9 (1 + (n : Int)) (by omega)
          rw [show (1 : Int) + (n : Int) = (n : Int) + 1 by omega, kputOf h2] at hput
          simp only at hput
          have hcode : codeB (kcodes.getD n []) = true := List.all_eq_true.1 kcodes_ok _ (List.mem_of_getElem? (kget h2).1)
          have hw := wrote_take kcodes l hkl
          rw [hln] at hw
          have hwl := wrote_length_le kcodes (m := 10) (by decide) (l.take k)
          rw [List.length_take, HLL.out.1] at hwl
          have hpc := fun w9 (hP : PenR w w9 pb (L0 ++ wrote kcodes (l.take k))) => Code_R hP (kcodes.getD n []) ((codeB_iff _).1 hcode).1 (by have := ((codeB_iff _).1 hcode).2.2; rw [List.length_append]; omega)
          rw [List.append_assoc, ← hw] at hpc
          obtain ⟨s, hs⟩ : ∃ s, kcodes.getD n [] = s := ⟨_, rfl⟩
          rw [hs] at hput hpc
          have hw1 : IntKind.i64.wrap (1 + (n : Int)) = (n : Int) + 1 := by rw [IntKind.wrap_i64]; omega
          have hw2 : (1 : Int) + (n : Int) = (n : Int) + 1 := by omega
          have HR := Lib.hid hPR
          clear hPR hw hwl hcode hs hln hn hX h1 h3 hon hkl hL0
          go_wp2_with (first | (go_at_call 26; refine (hpk _).mono ?_; rintro e w6 ⟨rfl, rfl⟩) | (go_at_call 18; refine (hput _).mono ?_; rintro e w7 ⟨rfl, ht7⟩) | (go_at_call 28; refine (hpc _ (HR.out.step ht7)).mono ?_; rintro e w8 ⟨rfl, hP8⟩))
          go_roundw
          case rel => exact ⟨k + 1, by omega, by go_num, hP8⟩
          case measure => simp [intOf]; omega
        · obtain rfl : M = k := by omega
          have htk : l.take M = l := List.take_of_length_le (by rw [HLL.out.1]; exact Nat.le_refl _)
          rw [htk] at hPR
          have hby := Bytes_R hPR
          have hbin := hPR.bin
          have hwl := wrote_length_le kcodes (m := 10) (by decide) l
          rw [HLL.out.1] at hwl
          have HB0 := Lib.hid (And.intro hbin hwl)
          clear hPR htk hbin hwl hon
          go_wp2_with (go_at_call 29; refine hby.mono ?_; rintro e w6 ⟨u, rfl, hsu, hP6⟩)
          obtain ⟨bs, hbs⟩ : ∃ bs, pack (L0 ++ wrote kcodes l) = bs := ⟨_, rfl⟩
          have hbl : bs.length ≤ 1000 := by rw [← hbs, pack_length, List.length_append]; have := HB0.out.2; omega
          rw [hbs] at hsu
          obtain ⟨NB, hNB⟩ : ∃ NB, bs.length = NB := ⟨_, rfl⟩
          rw [hNB] at hsu hbl
          obtain ⟨U, cu, rfl, hcu⟩ := hsu.val
          have hrd6 := Rd.of_sl hsu
          have HB := Lib.hid (And.intro hbs (And.intro hNB (And.intro hrd6 (And.intro hP6 hL0))))
          clear hbs hNB hrd6 hsu hP6 hby
          go_wp2_with fail
          go_loopw [12, 13, 14, 15, 16, 17, 18, 19] (fun a i _ _ _ _ _ _ wr => ∃ k : Nat, k ≤ M ∧ i = .int .i64 (k : Int) ∧ a = .int .i64 ((L0 ++ wrote kcodes (l.take k)).length : Int) ∧ OnlyIn [] w6 wr) (fun _ i _ _ _ _ _ _ _ => M - (intOf i).toNat)
          case atStart => exact ⟨0, by omega, rfl, by simp [wrote, HB.out.2.2.2.2], OnlyIn.refl _ _⟩
          case round =>
            obtain ⟨k, hk, rfl, rfl, ht6⟩ := hrel
            obtain ⟨hbs, hNB, hrd6, hP6, hL0⟩ := HB.out
            have hon := hP6.only.trans ht6
            by_cases hkM : k < M
            · obtain ⟨h1, h2, h3⟩ := HLL.out.2 k hkM
              obtain ⟨g2, off2, rfl, c1⟩ := HP.out.1 k hkM
              have c1 := hon.cell c1 (by simp)
              have hpk := fun w9 => Pick_any (ns.getD k 0) 10 w9 (by omega) (by omega) h3.1 h3.2
              rw [h1] at hpk
              obtain ⟨X, hX⟩ : ∃ X, ns.getD k 0 = X := ⟨_, rfl⟩
              rw [hX] at hpk c1
              obtain ⟨n, hn⟩ : ∃ n, l.getD k 0 = n := ⟨_, rfl⟩
              rw [hn] at hpk h2
              have hkl : k < l.length := by rw [HLL.out.1]; exact hkM
              have hln : l[k]'hkl = n := by rw [← hn, List.getD_eq_getElem?_getD, List.getElem?_eq_getElem hkl]; rfl
              have hput := fun w9 => kPut_any w9 ((n : Int) + 1) (by omega)
              rw [kputOf h2] at hput
              simp only at hput
              have hcode : codeB (kcodes.getD n []) = true := List.all_eq_true.1 kcodes_ok _ (List.mem_of_getElem? (kget h2).1)
              have hw := wrote_take kcodes l hkl
              have hsp := wrote_split kcodes l hkl
              rw [hln] at hw hsp
              obtain ⟨s, hs⟩ : ∃ s, kcodes.getD n [] = s := ⟨_, rfl⟩
              have hks := (kget h2).1
              rw [hs] at hput hcode hw hsp hks
              have hcs := (codeB_iff s).1 hcode
              obtain ⟨a, ha⟩ : ∃ a, (L0 ++ wrote kcodes (l.take k)).length = a := ⟨_, rfl⟩
              obtain ⟨z, hz⟩ : ∃ z, s.length = z := ⟨_, rfl⟩
              rw [hz] at hcs
              have hss := str_size s
              rw [hz] at hss
              have hLL : L0 ++ wrote kcodes l = (L0 ++ wrote kcodes (l.take k)) ++ digs s ++ wrote kcodes (l.drop (k + 1)) := by rw [hsp]; simp only [List.append_assoc]
              have hbin := HB0.out.1
              have hwl := HB0.out.2
              have hlen : L0.length + (wrote kcodes l).length = a + z + (wrote kcodes (l.drop (k + 1))).length := by rw [← List.length_append, hLL, List.length_append, List.length_append, digs_length, ha, hz]
              have hwlen : (L0 ++ wrote kcodes (l.take (k + 1))).length = a + z := by rw [hw, ← List.append_assoc, List.length_append, digs_length, ha, hz]
              rw [hLL] at hbs hbin
              have hhit := get_hit (t := KT) (by decide) kcodes_ok kbuild hks (kget h2).2 (pack_code (BinT.of_code hcode) hbin)
              rw [hbs, ha, hz] at hhit
              have hget := fun w9 (ho : OnlyIn [] w6 w9) => kGet_any w9 (.slice U NB cu) bs (by rw [hNB]; exact hrd6.cells fun p u hp => ho.cell hp (by simp)) (by omega) (a : Int) (by omega)
              have hgt : getT KT bs (a : Int) = ((n : Int) + 1, (z : Int), 0) := by
                unfold getT
                rw [if_neg (by omega), Int.toNat_natCast]
                exact hhit
              rw [hgt] at hget
              simp only at hget
              have hw1 : IntKind.i64.wrap (1 + (n : Int)) = (n : Int) + 1 := by rw [IntKind.wrap_i64]; omega
              have hw2 : (1 : Int) + (n : Int) = (n : Int) + 1 := by omega
              have b1 : ((n : Int) + 1 != (n : Int) + 1) = false := by simp
              have b2 : ((z : Int) != (z : Int)) = false := by simp
              have b3 : decide ((z : Int) < 1) = false := decide_eq_false (by omega)
              have hab : a ≤ 1000 := by omega
              have hzb : z ≤ 24 := hcs.2.2
              rw [ha]
              have HNX := Lib.hid (And.intro hwlen ht6)
              clear hbs hNB hrd6 hP6 hL0 hon h1 h3 hX hn hkl hln hcode hw hsp hs hks hcs ha hz hLL hbin hwl hlen hwlen hhit hgt
              go_wp2_with (first | (go_at_call 26; refine (hpk _).mono ?_; rintro e w7 ⟨rfl, rfl⟩) | (go_at_call 18; refine (hput _).mono ?_; rintro e w8 ⟨rfl, ht8⟩) | (go_at_call 15; refine (hget _ (ht6.trans ht8)).mono ?_; rintro e w9 ⟨rfl, ht9⟩))
              go_roundw
              case rel => exact ⟨k + 1, by omega, by go_num, by rw [HNX.out.1]; go_num, (HNX.out.2.trans ht8).trans ht9⟩
              case measure => simp [intOf]; omega
            · obtain rfl : M = k := by omega
              have htk : l.take M = l := List.take_of_length_le (by rw [HLL.out.1]; exact Nat.le_refl _)
              rw [htk]
              have hlen2 := fun w9 (ho : OnlyIn [] w6 w9) => Len_R (hP6.step ho)
              obtain ⟨a, ha⟩ : ∃ a, (L0 ++ wrote kcodes l).length = a := ⟨_, rfl⟩
              rw [ha] at hlen2 ⊢
              have b1 : ((a : Int) == (a : Int)) = true := by simp
              have HO := Lib.hid hon
              have hlr := hlen2 _ ht6
              clear hbs hNB hrd6 hP6 hL0 hon htk ha ht6 hlen2
              go_wp2_with (go_at_call 30; refine hlr.mono ?_; rintro e w7 ⟨rfl, rfl⟩)
              go_ret
              exact ⟨rfl, HO.out⟩
end Go.Proofs.Ytheihohojmcbiaa
