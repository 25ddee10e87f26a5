/-
  Law 03: PrefixBack: the walk.
-/
import Derived.Test.YtboipjdgccbjmaaMade
import Derived.Test.YtboipjdgccbjmaaBackSpec
import Derived.Test.YtboipjdgccbjmaaPenR
import Derived.Test.YtboipjdgccbjmaaKit
namespace Go.Proofs.Ytboipjdgccbjmaa
open Go.RowKit Go.Mine

theorem getTree_kept {K : List (List UInt8)} (hK : KeptOk K) (h0 : K ≠ []) {t : List TNode} (hb : build [TNode.mt] (kvOf (K.zip (upTo K.length))) = some t) (bs : List UInt8) (p : Nat) : getTree t bs (p : Int) = getOf (kvOf (K.zip (upTo K.length))) (bitsFrom bs p) := by
  unfold getTree
  rw [if_neg (by omega), Int.toNat_natCast, getF_kept hK h0 hb]
theorem putOf_kept {K : List (List UInt8)} {j : Nat} (hj : j < K.length) : putOf (told (K.zip (upTo K.length))) (j : Int) = (str (K.getD j []), 0) := by
  unfold putOf
  rw [told_kept K hj, List.getD_eq_getElem?_getD, List.getElem?_eq_getElem hj]
  rfl

set_option maxRecDepth 100000 in
set_option maxHeartbeats 4000000 in
theorem PrefixBack_walk {w : World} (x : Value × List (List UInt8)) (hx : Rd w 1 x.1 x.2.length (txtCells x.2) ∧ (∀ s ∈ x.2, s.length ≤ maxLen) ∧ x.2.length ≤ maxLen) 
    (y : Value × List Int) (hy : Rd w 1 y.1 y.2.length (intCells y.2) ∧ (∀ z ∈ y.2, -9223372036854775808 ≤ z ∧ z ≤ 9223372036854775807) ∧ y.2.length ≤ maxLen) :
    Calls Try.prog 12 #[x.1, y.1] w fun e w' => e = .returned (.bool true) ∧ OnlyIn [] w w' := by
  obtain ⟨cv, cs⟩ := x
  obtain ⟨nv, ns⟩ := y
  obtain ⟨hrc, hs, hcl⟩ := hx
  obtain ⟨hrn, hnb, hnl⟩ := hy
  simp only at hrc hs hcl hrn hnb hnl ⊢
  simp only [maxLen] at hs hcl hnl
  obtain ⟨A, c, rfl, hcc⟩ : ∃ A c, cv = .slice A cs.length c ∧ cs.length ≤ c := by
    obtain ⟨-, A, c, h1, h2, -⟩ := hrc; exact ⟨A, c, h1, h2⟩
  obtain ⟨E, f, rfl, hff, hcellN⟩ : ∃ A c, nv = .slice A ns.length c ∧ ns.length ≤ c ∧ ∀ k, k < ns.length → ∃ g off, A = some ⟨g, off, none⟩ ∧ w.cell? ⟨g, off + k, none⟩ = some (.int .i64 (ns.getD k 0)) := by
    obtain ⟨-, A, c, h1, h2, hA⟩ := hrn
    refine ⟨A, c, h1, h2, fun k hk => ?_⟩
    obtain ⟨g, off, e1, e2⟩ := hA (by omega)
    refine ⟨g, off, e1, ?_⟩
    rw [List.getD_eq_getElem?_getD, List.getElem?_eq_getElem hk]
    exact e2 k _ (intCells_get hk)
  have hlong := fun w1 (ho : OnlyIn [] w w1) => Long_any w1 _ cs (hrc.cells fun p u hp => ho.cell hp (by simp)) (by omega) (fun s hm => by have := hs s hm; omega)
  have hkn := known_any03 w
  by_cases hL : LongB cs = true
  · rw [hL] at hlong
    clear hrc hrn hs hnb hcellN
    go_enter Try.func12, Try.ntmps12
    go_wp2_with (first | (go_at_call 10; refine hkn.mono ?_; rintro e w1 ⟨rfl, ht⟩) | (go_at_call 35; refine (hlong _ ht).mono ?_; rintro e w1 ⟨rfl, rfl⟩))
    go_ret
    exact ⟨rfl, ht⟩
  have hL' : LongB cs = false := by simpa using hL
  have hs24 : cs.length ≤ 60 → ∀ s ∈ cs, s.length ≤ 40 := fun h60 s hm => by
    unfold LongB at hL'
    simp only [Bool.or_eq_false_iff, List.any_eq_false] at hL'
    have := hL'.1 s (by rw [List.take_of_length_le (by omega)]; exact hm)
    simp at this
    exact this
  rw [hL'] at hlong
  clear hL hL'
  by_cases h60 : 60 < cs.length
  · have hd : decide ((60 : Int) < (cs.length : Int)) = true := by simp; omega
    clear hrc hrn hs hnb hcellN
    go_enter Try.func12, Try.ntmps12
    go_wp2_with (first | (go_at_call 10; refine hkn.mono ?_; rintro e w1 ⟨rfl, ht⟩) | (go_at_call 35; refine (hlong _ ht).mono ?_; rintro e w1 ⟨rfl, rfl⟩))
    go_ret
    exact ⟨rfl, ht⟩
  have hd6 : decide ((60 : Int) < (cs.length : Int)) = false := by simp; omega
  by_cases h40 : 40 < ns.length
  · have hd : decide ((40 : Int) < (ns.length : Int)) = true := by simp; omega
    clear hrc hrn hs hnb hcellN
    go_enter Try.func12, Try.ntmps12
    go_wp2_with (first | (go_at_call 10; refine hkn.mono ?_; rintro e w1 ⟨rfl, ht⟩) | (go_at_call 35; refine (hlong _ ht).mono ?_; rintro e w1 ⟨rfl, rfl⟩))
    go_ret
    exact ⟨rfl, ht⟩
  have hd1 : decide ((40 : Int) < (ns.length : Int)) = false := by simp; omega
  have hmd := fun w1 (ho : OnlyIn [] w w1) => made_any w1 _ cs (hrc.cells fun p u hp => ho.cell hp (by simp)) (by omega) (fun s hm => by have := hs24 (by omega) s hm; omega)
  obtain ⟨NC, hNC⟩ : ∃ NC, cs.length = NC := ⟨_, rfl⟩
  obtain ⟨M, hM⟩ : ∃ M, ns.length = M := ⟨_, rfl⟩
  rw [hM] at hcellN
  have HP := Lib.hid (And.intro hcellN (And.intro hM hnb))
  rw [hNC] at hcl hcc hlong hd6 hmd ⊢
  rw [hM] at hnl hff h40 hd1 ⊢
  clear hNC hM hrn hrc hs hs24 h60 hcellN hnb
  go_enter Try.func12, Try.ntmps12
  go_wp2_with (first | (go_at_call 10; refine hkn.mono ?_; rintro e w1 ⟨rfl, ht⟩; clear hkn) | (go_at_call 35; refine (hlong _ ht).mono ?_; rintro e w2 ⟨rfl, rfl⟩; clear hlong))
  refine (hmd _ ht).mono ?_
  clear hmd
  rintro e w3 ⟨ht3, kv, p, K, hK, rfl, hrk, hcase⟩
  have hto := ht.then ht3 (by simp)
  clear ht ht3
  have hKO : KeptOk K := by rw [hK]; exact takeIn_ok _ _ KeptOk.nil
  obtain ⟨KN, hKN⟩ : ∃ KN, K.length = KN := ⟨_, rfl⟩
  obtain ⟨C, d, rfl, hdd⟩ : ∃ A c, kv = .slice A K.length c ∧ K.length ≤ c := by
    obtain ⟨-, A, c, h1, h2, -⟩ := hrk; exact ⟨A, c, h1, h2⟩
  rcases hcase with ⟨hnil, rfl⟩ | ⟨hne, t, b, v, mb, rfl, hb, hT⟩
  · have h0 : K.length = 0 := by rw [hnil]; rfl
    rw [h0]
    clear hKN hrk hdd h0
    go_wp2_with fail
    go_ret
    exact ⟨rfl, hto⟩
  have h0 : 0 < KN := by rw [← hKN]; exact List.length_pos_iff.2 hne
  obtain ⟨g, off, rfl, hkc⟩ : ∃ g off, C = some ⟨g, off, none⟩ ∧ ∀ q, q < KN → w3.cell? ⟨g, off + q, none⟩ = some (.string (str (K.getD q []))) := by
    obtain ⟨-, A', c', hv, -, hA'⟩ := hrk
    injection hv with hv _ _
    subst hv
    obtain ⟨g, off, e1, e2⟩ := hA' (by omega)
    refine ⟨g, off, e1, fun q hq => ?_⟩
    have hql : q < K.length := by omega
    rw [List.getD_eq_getElem?_getD, List.getElem?_eq_getElem hql]
    exact e2 q _ (txtCells_get hql)
  have z0 : ((KN : Int) == 0) = false := by simp; omega
  have hk40 : KN ≤ 40 := by rw [← hKN]; exact hKO.1
  have hnp := NewPen_R w3 w3 (OnlyIn.refl _ _)
  have hco := fun w4 (ho : OnlyIn [] w3 w4) => TCodes_any w4 (hT.only ho (by simp)) (by rw [hKN]; exact h0)
  rw [hKN] at hco hdd ⊢
  have bk : ((KN : Int) != (KN : Int)) = false := by simp
  have HT := Lib.hid (And.intro hT (And.intro hkc (And.intro hKO (And.intro hKN (And.intro hne (And.intro hb hto))))))
  clear hT hkc hKO hKN hne hb hto hrk hK
  go_wp2_with (first | (go_at_call 30; refine hnp.mono ?_; rintro e w4 ⟨pb, rfl, hPR⟩; clear hnp) | (go_at_call 46; refine (hco _ hPR.only).mono ?_; rintro e w5 ⟨rfl, rfl⟩; clear hco))
  obtain ⟨l, hl⟩ : ∃ l : List Nat, l = ns.map (pickN KN) := ⟨_, rfl⟩
  have hll : l.length = M := by rw [hl, List.length_map, HP.out.2.1]
  have hlk : ∀ k, k < M → ns.getD k 0 % (KN : Int) = (l.getD k 0 : Int) ∧ l.getD k 0 < KN ∧ (-9223372036854775808 ≤ ns.getD k 0 ∧ ns.getD k 0 ≤ 9223372036854775807) := fun k hk => by
    have hkn : k < ns.length := by rw [HP.out.2.1]; exact hk
    have e1 : ns.getD k 0 = ns[k]'hkn := by rw [List.getD_eq_getElem?_getD, List.getElem?_eq_getElem hkn]; rfl
    have e2 : l.getD k 0 = pickN KN (ns[k]'hkn) := by rw [hl, List.getD_eq_getElem?_getD, List.getElem?_map, List.getElem?_eq_getElem hkn]; rfl
    rw [e1, e2]
    exact ⟨pickN_eq h0 _, pickN_lt h0 _, HP.out.2.2 _ (List.getElem_mem hkn)⟩
  have HLL := Lib.hid (And.intro hll hlk)
  clear hl hll hlk
  go_loopw [9, 10] (fun i _ wr => ∃ k : Nat, k ≤ M ∧ i = .int .i64 (k : Int) ∧ PenR w3 wr pb (wrote K (l.take k))) (fun i _ _ => M - (intOf i).toNat)
  case atStart => exact ⟨0, by omega, rfl, hPR⟩
  case round =>
    clear hPR
    obtain ⟨k, hk, rfl, hPR⟩ := hrel
    obtain ⟨hT, hkc, hKO, hKN, hne, hb, hto⟩ := HT.out
    have hon := hPR.only
    by_cases hkM : k < M
    · obtain ⟨h1, h2, h3⟩ := HLL.out.2 k hkM
      obtain ⟨g2, off2, rfl, c1⟩ := HP.out.1 k hkM
      have c1 := (hto.then hon (by simp)).cell c1 (by simp)
      have hpk := Pick_any (ns.getD k 0) (KN : Int)
      rw [h1] at hpk
      obtain ⟨X, hX⟩ : ∃ X, ns.getD k 0 = X := ⟨_, rfl⟩
      rw [hX] at hpk c1 h3
      obtain ⟨n, hn⟩ : ∃ n, l.getD k 0 = n := ⟨_, rfl⟩
      rw [hn] at hpk h2
      have hln : l[k]'(by rw [HLL.out.1]; exact hkM) = n := by rw [← hn, List.getD_eq_getElem?_getD, List.getElem?_eq_getElem (by rw [HLL.out.1]; exact hkM)]; rfl
      have e2 := hon.cell (hkc n h2) (by simp)
      have hput := puts_any _ (hT.only hon (by simp)) (by rw [hKN]; exact h0) (n : Int) (by omega) (K.getD n []) 0
      rw [putOf_kept (by rw [hKN]; exact h2), decide_eq_true rfl] at hput
      have hcode : codeB (K.getD n []) = true := by
        rw [List.getD_eq_getElem?_getD, List.getElem?_eq_getElem (by rw [hKN]; exact h2)]
        exact List.all_eq_true.1 hKO.2.1 _ (List.getElem_mem _)
      have hw := wrote_take K l (k := k) (by rw [HLL.out.1]; exact hkM)
      rw [hln] at hw
      have h24 : ∀ s ∈ K, s.length ≤ 24 := fun s hm => ((codeB_iff s).1 (List.all_eq_true.1 hKO.2.1 s hm)).2.2
      have hwl := wrote_length_le K h24 (l.take k)
      rw [List.length_take, HLL.out.1] at hwl
      have hpc := fun w9 (hP : PenR w3 w9 pb (wrote K (l.take k))) => Code_R hP (K.getD n []) ((codeB_iff _).1 hcode).1 (by have := ((codeB_iff _).1 hcode).2.2; omega)
      rw [← hw] at hpc
      obtain ⟨s, hs⟩ : ∃ s, K.getD n [] = s := ⟨_, rfl⟩
      rw [hs] at e2 hput hpc
      have HR := Lib.hid hPR
      have hKi : (0 : Int) < (KN : Int) ∧ (KN : Int) ≤ 4611686018427387904 := by omega
      have hpk2 := fun w9 => hpk w9 hKi.1 hKi.2 h3.1 h3.2
      clear hT hkc hKO hKN hne hb hto hPR hw hwl h24 hcode hs hln hn hX h1 h3 hpk hon
      go_wp2_with (first | (go_at_call 28; refine (hpk2 _).mono ?_; rintro e w6 ⟨rfl, rfl⟩) | (go_at_call 49; refine hput.mono ?_; rintro e w7 ⟨rfl, ht7⟩; have e3 := ht7.cell e2 (by simp)) | (go_at_call 32; refine (hpc _ (HR.out.step ht7)).mono ?_; rintro e w8 ⟨rfl, hP8⟩))
      go_roundw
      case rel => exact ⟨k + 1, by omega, by go_num, hP8⟩
      case measure => simp [intOf]; omega
    · obtain rfl : M = k := by omega
      have htk : l.take M = l := List.take_of_length_le (by rw [HLL.out.1]; exact Nat.le_refl _)
      rw [htk] at hPR
      have hby := Bytes_R hPR
      have hbin := hPR.bin
      have HR := Lib.hid (And.intro hPR hbin)
      clear hPR htk hbin hT hkc hKO hKN hne hb hto hon
      go_wp2_with (go_at_call 34; refine hby.mono ?_; rintro e w6 ⟨u, rfl, hsu, hP6⟩)
      obtain ⟨hP4, hbin⟩ := HR.out
      obtain ⟨bs, hbs⟩ : ∃ bs, pack (wrote K l) = bs := ⟨_, rfl⟩
      have hKO2 := HT.out.2.2.1
      have h24 : ∀ s ∈ K, s.length ≤ 24 := fun s hm => ((codeB_iff s).1 (List.all_eq_true.1 hKO2.2.1 s hm)).2.2
      have hwl := wrote_length_le K h24 l
      rw [HLL.out.1] at hwl
      have hbl : bs.length ≤ 1000 := by rw [← hbs, pack_length]; omega
      have hblen : bs.length = ((wrote K l).length + 7) / 8 := by rw [← hbs, pack_length]
      rw [hbs] at hsu
      obtain ⟨NB, hNB⟩ : ∃ NB, bs.length = NB := ⟨_, rfl⟩
      rw [hNB] at hsu hbl
      obtain ⟨U, cu, rfl, hcu⟩ := hsu.val
      have hrd6 := Rd.of_sl hsu
      have hon6 := hP6.only
      have HB := Lib.hid (And.intro hbs (And.intro hNB (And.intro hrd6 (And.intro hon6 (And.intro hbin (And.intro hblen hwl))))))
      clear hP4 hbin hbs hKO2 h24 hwl hblen hNB hrd6 hon6 hsu hP6
      go_wp2_with fail
      go_loopw [12, 13, 14, 15] (fun a i _ _ wr => ∃ k : Nat, k ≤ M ∧ i = .int .i64 (k : Int) ∧ a = .int .i64 ((wrote K (l.take k)).length : Int) ∧ OnlyIn [] w6 wr) (fun _ i _ _ _ => M - (intOf i).toNat)
      case atStart => exact ⟨0, by omega, rfl, rfl, OnlyIn.refl _ _⟩
      case round =>
        obtain ⟨k, hk, rfl, rfl, ht6⟩ := hrel
        obtain ⟨hbs, hNB, hrd6, hon6, hbin, hblen, hwl⟩ := HB.out
        obtain ⟨hT, hkc, hKO, hKN, hne, hb, hto⟩ := HT.out
        have hon := hon6.then ht6 (by simp)
        by_cases hkM : k < M
        · obtain ⟨h1, h2, h3⟩ := HLL.out.2 k hkM
          obtain ⟨g2, off2, rfl, c1⟩ := HP.out.1 k hkM
          have c1 := (hto.then hon (by simp)).cell c1 (by simp)
          have hpk := Pick_any (ns.getD k 0) (KN : Int)
          rw [h1] at hpk
          obtain ⟨X, hX⟩ : ∃ X, ns.getD k 0 = X := ⟨_, rfl⟩
          rw [hX] at hpk c1 h3
          obtain ⟨n, hn⟩ : ∃ n, l.getD k 0 = n := ⟨_, rfl⟩
          rw [hn] at hpk h2
          have hkl : k < l.length := by rw [HLL.out.1]; exact hkM
          have hln : l[k]'hkl = n := by rw [← hn, List.getD_eq_getElem?_getD, List.getElem?_eq_getElem hkl]; rfl
          have e2 := hon.cell (hkc n h2) (by simp)
          have hnl : n < K.length := by rw [hKN]; exact h2
          have hgn : K[n]? = some (K.getD n []) := by rw [List.getD_eq_getElem?_getD, List.getElem?_eq_getElem hnl]; rfl
          have hcode : codeB (K.getD n []) = true := List.all_eq_true.1 hKO.2.1 _ (List.mem_of_getElem? hgn)
          have hw := wrote_take K l hkl
          have hsp := wrote_split K l hkl
          rw [hln] at hw hsp
          obtain ⟨s, hs⟩ : ∃ s, K.getD n [] = s := ⟨_, rfl⟩
          rw [hs] at e2 hgn hcode hw hsp
          have hbt : BinT s := BinT.of_code hcode
          have hcs := (codeB_iff s).1 hcode
          obtain ⟨a, ha⟩ : ∃ a, (wrote K (l.take k)).length = a := ⟨_, rfl⟩
          obtain ⟨z, hz⟩ : ∃ z, s.length = z := ⟨_, rfl⟩
          rw [hz] at hcs
          have hss := str_size s
          rw [hz] at hss
          have hlen := congrArg List.length hsp
          rw [List.length_append, List.length_append, digs_length, ha, hz] at hlen
          have hwlen := congrArg List.length hw
          rw [List.length_append, digs_length, ha, hz] at hwlen
          rw [hsp] at hbs hbin
          have hget := getOf_one hKO hgn (List.isPrefixOf_iff_prefix.2 (pack_code hbt hbin))
          rw [hbs, ha, hz] at hget
          have hrdr := hrd6.cells (w' := wr) fun p u hp => ht6.cell hp (by simp)
          have hTr := hT.only hon (by simp)
          have hmp : 0 < K.length := by omega
          have hg1 := fun w9 (ho : OnlyIn [] wr w9) => gets_any w9 (hTr.only ho (by simp)) hmp (.slice U NB cu) bs (by rw [hNB]; exact hrdr.cells fun p u hp => ho.cell hp (by simp)) (by omega) (a : Int) (by omega) (n : Int) (z : Int) 0
          rw [getTree_kept hKO hne hb, hget, decide_eq_true rfl] at hg1
          obtain ⟨E, hE⟩ : ∃ E, (a + z - 1) / 8 = E := ⟨_, rfl⟩
          have hEi : ((a : Int) + (z : Int) - 1).tdiv 8 = (E : Int) := by rw [Int.tdiv_eq_ediv_of_nonneg (by omega)]; omega
          have hEi2 : ((a : Int) + (z : Int) - 1) / 8 = (E : Int) := by omega
          have hENB : E < NB := by omega
          have hE1 : 8 * E < a + z := by omega
          have hrdE := hrdr.take (m := E) (by omega) (by omega)
          have hEl : (bs.take E).length = E := by rw [List.length_take]; omega
          have hg2 := fun w9 (ho : OnlyIn [] wr w9) => gets_any w9 (hTr.only ho (by simp)) hmp (.slice U E cu) (bs.take E) (by rw [hEl]; exact hrdE.cells fun p u hp => ho.cell hp (by simp)) (by omega) (a : Int) (by omega) 0 0 5
          have hg2' : a ≤ 8 * E → ∀ w9, OnlyIn [] wr w9 → Calls Try.prog 48 #[.pointer (some ⟨b, 0, none⟩), .slice U E cu, .int .i64 (a : Int), .int .i64 0, .int .i64 0, .int .i64 5] w9 fun e w' => e = .returned (.bool true) ∧ OnlyIn [] w9 w' := fun hle w9 ho => by
            have hc := pack_cut hbt hbin (e := E) (by rw [ha]; exact hle) (by rw [ha, hz]; exact hE1)
            rw [hbs, ha, hz] at hc
            have hp := getOf_part hKO hgn hc.1 (by rw [hz]; exact hc.2)
            have h9 := hg2 w9 ho
            rw [getTree_kept hKO hne hb, hp, decide_eq_true rfl] at h9
            exact h9
          have hKi : (0 : Int) < (KN : Int) ∧ (KN : Int) ≤ 4611686018427387904 := by omega
          have hpk2 := fun w9 => hpk w9 hKi.1 hKi.2 h3.1 h3.2
          have hab : a ≤ 1000 := by omega
          have hzb : z ≤ 24 := hcs.2.2
          rw [ha]
          have HNX := Lib.hid (And.intro hwlen ht6)
          clear hbs hNB hrd6 hon6 hbin hblen hwl hT hkc hKO hKN hne hb hto hpk hX hn hln hgn hcode hw hsp hs hbt hcs hlen hwlen hget hrdr hTr hmp hrdE hEl hg2 h1 h3 hE hnl hkl ht6 hz ha
          by_cases hle : a ≤ 8 * E
          · have d1 : decide ((a : Int) ≤ (E : Int) * 8) = true := decide_eq_true (by omega)
            have d2 : decide ((E : Int) < (NB : Int)) = true := decide_eq_true (by omega)
            have d3 : decide ((E : Int) ≤ (NB : Int)) = true := decide_eq_true (by omega)
            have d4 : decide ((NB : Int) < (E : Int)) = false := decide_eq_false (by omega)
            have hEc : E ≤ cu := by omega
            have hg3 := hg2' hle
            clear hg2'
            go_wp2_with (first | (go_at_call 28; refine (hpk2 _).mono ?_; rintro e w7 ⟨rfl, rfl⟩; clear hpk2) | (go_at_call 48; refine (hg1 _ (OnlyIn.refl _ _)).mono ?_; rintro e w8 ⟨rfl, ht8⟩; clear hg1; have e3 := ht8.cell e2 (by simp)) | (go_at_call 48; refine (hg3 _ ht8).mono ?_; rintro e w9 ⟨rfl, ht9⟩; clear hg3; have e4 := ht9.cell e3 (by simp)))
            go_roundw
            case rel => exact ⟨k + 1, by omega, by go_num, by rw [HNX.out.1]; go_num, (HNX.out.2.then ht8 (by simp)).then ht9 (by simp)⟩
            case measure => simp [intOf]; omega
          · have d1 : decide ((a : Int) ≤ (E : Int) * 8) = false := decide_eq_false (by omega)
            clear hg2'
            go_wp2_with (first | (go_at_call 28; refine (hpk2 _).mono ?_; rintro e w7 ⟨rfl, rfl⟩; clear hpk2) | (go_at_call 48; refine (hg1 _ (OnlyIn.refl _ _)).mono ?_; rintro e w8 ⟨rfl, ht8⟩; clear hg1; have e3 := ht8.cell e2 (by simp)))
            go_roundw
            case rel => exact ⟨k + 1, by omega, by go_num, by rw [HNX.out.1]; go_num, HNX.out.2.then ht8 (by simp)⟩
            case measure => simp [intOf]; omega
        · have hfin := hto.then hon (by simp)
          clear hbs hNB hrd6 hon6 hbin hblen hwl hT hkc hKO hKN hne hb hto hon ht6
          go_wp2_with fail
          go_ret
          exact ⟨rfl, hfin⟩
end Go.Proofs.Ytboipjdgccbjmaa
