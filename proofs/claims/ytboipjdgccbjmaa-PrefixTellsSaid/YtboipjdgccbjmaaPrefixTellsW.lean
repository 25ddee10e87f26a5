/-
  Law 03: PrefixTells: the walk.
-/
import Derived.Test.YtboipjdgccbjmaaKnown03
import Derived.Test.YtboipjdgccbjmaaKitCopy
namespace Go.Proofs.Ytboipjdgccbjmaa
open Go.RowKit Go.Mine

set_option maxRecDepth 100000 in
/-- What the reference answers at any place. -/
theorem rGet_all (w : World) {base b : Nat} {tv tu : Value} {cs : List (List UInt8)} {ns : List Int} (h : RT w base b tv tu cs ns) (hl : cs.length = ns.length) (hN : cs.length ≤ 1000000) (hs : ∀ s ∈ cs, s.length ≤ 1000000)
    (h0 : 0 < cs.length) (hc : cs.all codeB = true) {t : List TNode} (hb : build [TNode.mt] (kvOf (cs.zip ns)) = some t)
    (v : Value) (bs : List UInt8) (hr : Rd w 1 v bs.length (byteCells bs)) (hbl : bs.length ≤ 1000000000) (i : Int) (hi : i ≤ 9223372036854775807) :
    Calls Try.prog 43 #[.pointer (some ⟨b, 0, none⟩), v, .int .i64 i] w fun e w' => e = .returned (.tuple #[.int .i64 (getTree t bs i).1, .int .i64 (getTree t bs i).2.1, .int .i64 (getTree t bs i).2.2]) ∧ OnlyIn [] w w' := by
  unfold getTree
  by_cases hn : i < 0
  · rw [if_pos hn]
    obtain ⟨-, A, c, rfl, -⟩ := hr
    exact rGet_neg w _ A _ c i hn
  · rw [if_neg hn]
    obtain ⟨k, rfl⟩ := Int.eq_ofNat_of_zero_le (by omega : 0 ≤ i)
    have := rGet_any w h hl hN hs v bs hr hbl k (by omega)
    rw [Int.toNat_natCast, getF_ref hl h0 hc hb bs k]
    exact this

theorem beq_str (s : ByteArray) : (s.toList == s.toList) = true := by simp

set_option maxRecDepth 100000 in
set_option maxHeartbeats 4000000 in
theorem PrefixTells_walk {w : World} (x : Value × List (List UInt8)) (hx : Rd w 1 x.1 x.2.length (txtCells x.2) ∧ (∀ s ∈ x.2, s.length ≤ maxLen) ∧ x.2.length ≤ maxLen) (hz : x.2.length * 16 ≤ 140737488355328)
    (y : Value × List Int) (hy : Rd w 1 y.1 y.2.length (intCells y.2) ∧ (∀ z ∈ y.2, -9223372036854775808 ≤ z ∧ z ≤ 9223372036854775807) ∧ y.2.length ≤ maxLen)
    (z : Value × List UInt8) (hzz : Rd w 1 z.1 z.2.length (byteCells z.2) ∧ z.2.length ≤ maxLen) (i : Int) (hi : -9223372036854775808 ≤ i ∧ i ≤ 9223372036854775807) (n : Int) (hn : -9223372036854775808 ≤ n ∧ n ≤ 9223372036854775807) :
    Calls Try.prog 8 #[x.1, y.1, z.1, .int .i64 i, .int .i64 n] w fun e w' => e = .returned (.bool true) ∧ OnlyIn [] w w' := by
  obtain ⟨cv, cs⟩ := x
  obtain ⟨nv, ns⟩ := y
  obtain ⟨bv, bs⟩ := z
  obtain ⟨hrc, hs, hcl⟩ := hx
  obtain ⟨hrn, hnb, hnl⟩ := hy
  obtain ⟨hrb, hbl⟩ := hzz
  simp only at hrc hs hcl hz hrn hnb hnl hrb hbl ⊢
  simp only [maxLen] at hs hcl hnl hbl
  obtain ⟨A, c, rfl, hcc⟩ : ∃ A c, cv = .slice A cs.length c ∧ cs.length ≤ c := by
    obtain ⟨-, A, c, h1, h2, -⟩ := hrc; exact ⟨A, c, h1, h2⟩
  obtain ⟨B, d, rfl, hdd⟩ : ∃ A c, nv = .slice A ns.length c ∧ ns.length ≤ c := by
    obtain ⟨-, A, c, h1, h2, -⟩ := hrn; exact ⟨A, c, h1, h2⟩
  obtain ⟨E, f, rfl, hff⟩ : ∃ A c, bv = .slice A bs.length c ∧ bs.length ≤ c := by
    obtain ⟨-, A, c, h1, h2, -⟩ := hrb; exact ⟨A, c, h1, h2⟩
  have hlong := Long_any w _ cs hrc (by omega) (fun s hm => by have := hs s hm; omega)
  have haw := fun w => awake_any03 w
  by_cases hL : LongB cs = true
  · rw [hL] at hlong
    clear hrc hrn hrb hs hnb
    go_enter Try.func8, Try.ntmps8
    go_wp2_with (first | (go_at_call 35; refine hlong.mono ?_; rintro e w1 ⟨rfl, rfl⟩) | (go_at_call 36; refine (haw _).mono ?_; rintro e w2 ⟨rfl, ht⟩))
    go_ret
    exact ⟨rfl, ht⟩
  rw [show LongB cs = false by simpa using hL] at hlong
  clear hL
  by_cases h400 : 400 < ns.length
  · have hd : decide ((400 : Int) < (ns.length : Int)) = true := by simp; omega
    clear hrc hrn hrb hs hnb
    go_enter Try.func8, Try.ntmps8
    go_wp2_with (first | (go_at_call 35; refine hlong.mono ?_; rintro e w1 ⟨rfl, rfl⟩) | (go_at_call 36; refine (haw _).mono ?_; rintro e w2 ⟨rfl, ht⟩))
    go_ret
    exact ⟨rfl, ht⟩
  have hd4 : decide ((400 : Int) < (ns.length : Int)) = false := by simp; omega
  by_cases h100 : 100 < bs.length
  · have hd : decide ((100 : Int) < (bs.length : Int)) = true := by simp; omega
    clear hrc hrn hrb hs hnb
    go_enter Try.func8, Try.ntmps8
    go_wp2_with (first | (go_at_call 35; refine hlong.mono ?_; rintro e w1 ⟨rfl, rfl⟩) | (go_at_call 36; refine (haw _).mono ?_; rintro e w2 ⟨rfl, ht⟩))
    go_ret
    exact ⟨rfl, ht⟩
  have hd1 : decide ((100 : Int) < (bs.length : Int)) = false := by simp; omega
  have hci := fun w1 (ho : OnlyIn [] w w1) => CopyInts_any w1 _ ns (hrn.cells fun p u hp => ho.cell hp (by simp)) (by omega)
  obtain ⟨i0, hi0, hz0, hz1, hz2⟩ := info_parts Try.infoStr
  have h1c : ∀ u ∈ txtCells cs, u.oneCell' = true := txtCells_one cs
  have HP := Lib.hid (And.intro hrc (And.intro hrn (And.intro hrb (And.intro hs hnb))))
  obtain ⟨NC, hNC⟩ : ∃ NC, cs.length = NC := ⟨_, rfl⟩
  obtain ⟨NN, hNN⟩ : ∃ NN, ns.length = NN := ⟨_, rfl⟩
  obtain ⟨NB, hNB⟩ : ∃ NB, bs.length = NB := ⟨_, rfl⟩
  have HNUM := Lib.hid (And.intro hNC (And.intro hNN hNB))
  rw [hNC] at hrc hcl hz hcc hlong ⊢
  rw [hNN] at hrn hnl hdd h400 hd4 hci ⊢
  rw [hNB] at hrb hbl hff h100 hd1 ⊢
  clear hNC hNN hNB hrb hrn hs hnb
  go_enter Try.func8, Try.ntmps8
  go_wp2_with (first | (go_at_call 35; refine hlong.mono ?_; rintro e w1 ⟨rfl, rfl⟩) | (at_builtin; refine wpList_append_sl rfl _ _ 51 rfl w.heap.size 9 i0 _ 1 16 Try.underlying51 hi0 hz0 hz1 hz2 rfl (by decide) _ 0 [] rfl (Sl.lit _ [] 9 0 rfl (by decide) (Nat.le_refl _)) _ NC (txtCells cs) rfl (hrc.cells fun p u hp => ((OnlyIn.refl [] w).alloc _).cell hp (by simp)) h1c (by simp only [maxLen]; omega) (by omega) (by simp) ?_; intro v1 w1 hs1 hg1 hat1; rw [Nat.zero_add, List.nil_append] at hs1; have ht1 : OnlyIn [] w w1 := ((OnlyIn.refl [] w).alloc _).grown hg1 (fun k hk => .inr (by cases hk; exact Nat.le_refl _)); clear hlong) | (go_at_call 37; refine (hci _ ht1).mono ?_; rintro e w2 ⟨v2, rfl, hs2, ht2⟩; clear hci))
  obtain ⟨hrc0, hrn0, hrb0, hs0, hnb0⟩ := HP.out
  obtain ⟨e1, e2, e3⟩ := HNUM.out
  have hon : OnlyIn [] w w2 := ht1.then ht2 (by simp)
  obtain ⟨A1, c1, rfl, -⟩ := hs1.val
  obtain ⟨A2, c2, rfl, -⟩ := hs2.val
  have hsz1 := ht1.size
  have hsz2 := ht2.size
  have hs1' := hs1.only ht2 (by simp)
  rw [← e1] at hs1'
  rw [← e2] at hs2
  have hmk := Make_any w2 _ _ cs ns (Rd.of_sl hs1') (Rd.of_sl hs2) (fun s hm => by have := hs0 s hm; omega) (by omega) (by omega) hnb0
  rw [e1, e2] at hmk
  refine hmk.mono ?_
  rintro e w3 ⟨ho3, hM⟩
  have hon3 : OnlyIn [] w w3 := hon.then ho3 (by simp)
  have hrmk := rMake_any w3 _ _ cs ns (hrc0.cells fun p u hp => hon3.cell hp (by simp)) (hrn0.cells fun p u hp => hon3.cell hp (by simp)) (fun s hm => by have := hs0 s hm; omega) (by omega) (by omega)
  have hcases : (∃ k, e = .returned (.tuple #[.pointer none, .int .i64 k]) ∧ Calls Try.prog 39 #[.slice A NC c, .slice B NN d] w3 fun e5 w5 => e5 = .returned (.tuple #[.pointer none, .int .i64 k]) ∧ OnlyIn [] w3 w5) ∨
      (∃ t b v mb, ((cs.length = ns.length ∧ 0 < cs.length ∧ cs.length ≤ 300 ∧ cs.all codeB = true) ∧ build [TNode.mt] (kvOf (cs.zip ns)) = some t) ∧ e = .returned (.tuple #[.pointer (some ⟨b, 0, none⟩), .int .i64 0]) ∧ Tr w3 w2.heap.size b v mb cs.length t (told (cs.zip ns)) cs.length ∧
        Calls Try.prog 39 #[.slice A NC c, .slice B NN d] w3 fun e5 w5 => ∃ b' v' u', e5 = .returned (.tuple #[.pointer (some ⟨b', 0, none⟩), .int .i64 0]) ∧ RT w5 w3.heap.size b' v' u' cs ns ∧ OnlyIn [] w3 w5) := by
    rw [e1, e2] at hrmk
    rcases hM with ⟨hbad, he⟩ | ⟨hgood, ⟨hno, he⟩ | ⟨t, b, v, mb, hb, he, hT⟩⟩
    · refine .inl ⟨2, he, hrmk.mono fun e5 w5 ⟨ho5, h5⟩ => ?_⟩
      rcases h5 with ⟨-, h5⟩ | ⟨hgood, -⟩
      · exact ⟨h5, ho5⟩
      · exfalso
        obtain ⟨g1, g2, g3, g4⟩ := hgood
        rcases hbad with hbad | hbad | hbad | hbad
        · exact hbad g1
        · omega
        · omega
        · rw [g4] at hbad; cases hbad
    · refine .inl ⟨14, he, hrmk.mono fun e5 w5 ⟨ho5, h5⟩ => ?_⟩
      rcases h5 with ⟨hbad, -⟩ | ⟨-, ⟨-, h5⟩ | ⟨hcl, -⟩⟩
      · exfalso
        obtain ⟨g1, g2, g3, g4⟩ := hgood
        rcases hbad with hbad | hbad | hbad | hbad
        · exact hbad g1
        · omega
        · omega
        · rw [g4] at hbad; cases hbad
      · exact ⟨h5, ho5⟩
      · exfalso
        rcases build_iff hgood.1 hgood.2.2.2 with ⟨-, h⟩ | ⟨t, lab, h, -⟩
        · exact hcl h
        · rw [hno] at h; cases h
    · refine .inr ⟨t, b, v, mb, ⟨hgood, hb⟩, he, hT, hrmk.mono fun e5 w5 ⟨ho5, h5⟩ => ?_⟩
      rcases h5 with ⟨hbad, -⟩ | ⟨-, ⟨hcl, -⟩ | ⟨-, b', v', u', h5, hRT⟩⟩
      · exfalso
        obtain ⟨g1, g2, g3, g4⟩ := hgood
        rcases hbad with hbad | hbad | hbad | hbad
        · exact hbad g1
        · omega
        · omega
        · rw [g4] at hbad; cases hbad
      · exfalso
        rcases build_iff hgood.1 hgood.2.2.2 with ⟨h, -⟩ | ⟨t, lab, -, h, -⟩
        · rw [hb] at h; cases h
        · exact h hcl
      · exact ⟨b', v', u', h5, hRT, ho5⟩
  have hs2a := hs2.only ho3 (by simp)
  have hs1a := hs1'.only ho3 (by simp)
  have hsi : ∀ w5, OnlyIn [] w3 w5 → Calls Try.prog 40 #[.slice A2 NN c2, .slice B NN d] w5 fun e6 w6 => e6 = .returned (.bool true) ∧ OnlyIn [] w5 w6 := fun w5 ho5 => by
    have := SameInts_any w5 _ _ ns ns (Rd.of_sl (hs2a.only ho5 (by simp))) (hrn0.cells fun p u hp => (hon3.then ho5 (by simp)).cell hp (by simp)) (by omega) (by omega)
    rw [decide_eq_true rfl, e2] at this
    exact this
  clear hmk hrmk hM hrc0 hrn0 HNUM
  have HQ := Lib.hid (And.intro e1 (And.intro e2 e3))
  clear e1 e2 e3
  rcases hcases with ⟨k, rfl, hr⟩ | ⟨t, b, v, mb, hgood, rfl, hT, hr⟩
  · have bk : (k != k) = false := by simp
    clear hs1 hs2 hs1' hs1a hs2a hs0 hnb0 hrb0 hrc HP
    go_wp2_with (first | (go_at_call 39; refine hr.mono ?_; rintro e5 w5 ⟨rfl, ht5⟩) | (go_at_call 40; refine (hsi _ ht5).mono ?_; rintro e6 w6 ⟨rfl, ht6⟩) | (go_at_call 36; refine (haw _).mono ?_; rintro e7 w7 ⟨rfl, ht7⟩))
    go_ret
    exact ⟨rfl, ((hon3.then ht5 (by simp)).then ht6 (by simp)).then ht7 (by simp)⟩
  have ho2 := hs2a.own_lt
  have ho1 := hs1a.own_lt
  have h1lt : ∀ g, (Value.slice A1 NC c1).ownBlock = some g → w.heap.size ≤ g ∧ g < w1.heap.size := hs1.own_lt
  have h2lt : ∀ g, (Value.slice A2 NN c2).ownBlock = some g → w1.heap.size ≤ g ∧ g < w2.heap.size := fun g hg => by rw [← HQ.out.2.1] at hg; exact ⟨(ho2 g hg).1, by have := hs2.own_lt g hg; omega⟩
  have hsz3 := ho3.size
  have hov : ∀ w6, OnlyIn [] w3 w6 → Calls Try.prog 41 #[.slice A2 NN c2] w6 fun e8 w8 => e8 = .returned (.tuple #[]) ∧ OnlyIn (Value.slice A2 NN c2).ownBlock.toList w6 w8 := fun w6 ho6 =>
    OverInts_any w6 _ NN (intCells ns) w1.heap.size (by have := hs2a.only ho6 (by simp); rwa [HQ.out.2.1] at this) (by omega)
  clear hs1 hs2 hs1' hs2a hs0 hnb0 hrc hz hcc ho1 ho2
  have HH := Lib.hid (And.intro hT (And.intro h1lt (And.intro h2lt hgood)))
  have HS1 := Lib.hid hs1a
  clear hT h1lt h2lt hs1a hgood h1c
  go_wp2_with (first | (go_at_call 39; refine hr.mono ?_; rintro e5 w5 ⟨b', v', u', rfl, hRT, ht5⟩; clear hr) | (go_at_call 40; refine (hsi _ ht5).mono ?_; rintro e6 w6 ⟨rfl, ht6⟩; clear hsi) | (go_at_call 41; refine (hov _ (ht5.then ht6 (by simp))).mono ?_; rintro e8 w8 ⟨rfl, ht8⟩; clear hov))
  obtain ⟨hT, h1lt, h2lt, hgood, hbuild⟩ := HH.out
  obtain ⟨e1, e2, e3⟩ := HQ.out
  have h300 : NC ≤ 300 := by rw [← e1]; exact hgood.2.2.1
  have h0 : 0 < NC := by rw [← e1]; exact hgood.2.1
  have hon8 : OnlyIn [] w w8 := ((hon3.then ht5 (by simp)).then ht6 (by simp)).then ht8 (fun j hj => .inr (by have := h2lt j (by simpa using hj); omega))
  have ho8 : OnlyIn (Value.slice A2 NN c2).ownBlock.toList w3 w8 := ((ht5.then ht6 (by simp)).mono (by simp)).then ht8 (fun j hj => .inl hj)
  have hs1b := HS1.out.only ho8 (fun g hg hm => by rw [e1] at hg; have := h1lt g hg; have := h2lt g (by simpa using hm); omega)
  rw [e1] at hs1b
  have hsz5 := ht5.size
  have hT8 := hT.only ho8 (fun k hk => (h2lt k (by simpa using hk)).2)
  have hRT8 := (hRT.only ht6 (by simp)).only ht8 (fun k hk => by have := h2lt k (by simpa using hk); omega)
  have HT8 := Lib.hid (And.intro hT8 (And.intro hRT8 (And.intro hon8 (And.intro h1lt (And.intro hgood (And.intro hbuild (And.intro e1 (And.intro e2 e3))))))))
  clear hT8 hRT8 hon8 hgood hbuild e1 e2 e3 h2lt h1lt hT hRT HH HQ HS1 ho8 ht8 ht6 ht5 hon3 ho3 hon ht1 ht2 hg1 hat1
  go_loopw [17] (fun i wr => ∃ (k : Nat) (ys : List Value), k ≤ NC ∧ i = .int .i64 (k : Int) ∧ Sl wr w.heap.size 9 1 (.slice A1 NC c1) NC ys ∧ OnlyIn (Value.slice A1 NC c1).ownBlock.toList w8 wr) (fun i _ => NC - (intOf i).toNat)
  case atStart => exact ⟨0, _, by omega, rfl, hs1b, OnlyIn.refl _ _⟩
  case round =>
    clear hs1b
    obtain ⟨k, ys, hk, rfl, hsr, hto⟩ := hrel
    by_cases hlt : k < NC
    · obtain ⟨g, off, cap, hv, hg1, hg2, hg3⟩ := hsr.form (by omega)
      injection hv with hA _ hcc
      subst hA hcc
      have hyl : ys.length = NC := by simpa using hsr.1
      have q0 : wr.cell? ⟨g, off + k, none⟩ = some (ys[k]'(by omega)) := hsr.cell_at rfl (List.getElem?_eq_getElem (by omega))
      have f0 : wr.frozen? ⟨g, off + k, none⟩ = false := hsr.free_at rfl _
      go_wp2_with fail
      go_roundw
      case rel => exact ⟨k + 1, _, by omega, by go_num, hsr.stored rfl k _, hto.setCell (p := ⟨g, off + k, none⟩) (.inl (by simp [Value.ownBlock])) _⟩
      case measure => simp [intOf]; omega
    · obtain ⟨hT8, hRT8, hon8, h1lt, hgood, hbuild, e1, e2, e3⟩ := HT8.out
      have hTr := hT8.only hto (fun g hk => by have := h1lt g (by simpa using hk); omega)
      have hRr := hRT8.only hto (fun g hk => by have := h1lt g (by simpa using hk); omega)
      have hor : OnlyIn [] w wr := hon8.then hto (fun g hk => .inr (by have := h1lt g (by simpa using hk); omega))
      have hrb := HP.out.2.2.1
      have hlen : (cs.zip ns).length = cs.length := by rw [List.length_zip, ← hgood.1, Nat.min_self]
      obtain ⟨⟨x, m, er⟩, hx⟩ : ∃ x, getTree t bs i = x := ⟨_, rfl⟩
      obtain ⟨⟨s, es⟩, hs⟩ : ∃ x, putOf (told (cs.zip ns)) n = x := ⟨_, rfl⟩
      have g1 := TGet_all wr hTr hgood.2.1 _ bs (hrb.cells fun p u hp => hor.cell hp (by simp)) (by omega) i hi.2
      have g2 := fun w9 (ho9 : OnlyIn [] wr w9) => rGet_all w9 (hRr.only ho9 (by simp)) hgood.1 (by omega) (fun s hm => by have := ((codeB_iff s).1 (List.all_eq_true.1 hgood.2.2.2 s hm)).2.2; omega) hgood.2.1 hgood.2.2.2 hbuild _ bs (hrb.cells fun p u hp => (hor.then ho9 (by simp)).cell hp (by simp)) (by omega) i hi.2
      have g3 := fun w9 (ho9 : OnlyIn [] wr w9) => TPut_any w9 (hTr.only ho9 (by simp)) hgood.2.1 n hn
      have g4 := fun w9 (ho9 : OnlyIn [] wr w9) => rPut_any w9 (hRr.only ho9 (by simp)) hgood.1 (by omega) n
      have g5 := fun w9 (ho9 : OnlyIn [] wr w9) => TCodes_any w9 (hTr.only ho9 (by simp)) hgood.2.1
      rw [hx, e3] at g1
      rw [hx, e3] at g2
      rw [hs] at g3 g4
      rw [e1] at g5
      have bx : (x == x) = true := by simp
      have bm : (m == m) = true := by simp
      have be : (er == er) = true := by simp
      have bs' : (s.toList == s.toList) = true := by simp
      have bi : (es == es) = true := by simp
      clear hT8 hRT8 hon8 hgood hbuild e1 e2 e3 h1lt hTr hRr hx hs hlen hrb HP HT8 hsr hto
      go_wp2_with (first | (go_at_call 42; refine g1.mono ?_; rintro e10 w10 ⟨rfl, h10⟩) | (go_at_call 43; refine (g2 _ h10).mono ?_; rintro e11 w11 ⟨rfl, h11⟩; have o11 := h10.then h11 (by simp)) | (go_at_call 44; refine (g3 _ o11).mono ?_; rintro e12 w12 ⟨rfl, h12⟩; have o12 := o11.then h12 (by simp)) | (go_at_call 45; refine (g4 _ o12).mono ?_; rintro e13 w13 ⟨rfl, rfl⟩) | (go_at_call 46; refine (g5 _ o12).mono ?_; rintro e14 w14 ⟨rfl, rfl⟩) | (go_at_call 36; refine (haw _).mono ?_; rintro e7 w7 ⟨rfl, ht7⟩))
      go_ret
      exact ⟨rfl, (hor.then o12 (by simp)).then ht7 (by simp)⟩
end Go.Proofs.Ytboipjdgccbjmaa
