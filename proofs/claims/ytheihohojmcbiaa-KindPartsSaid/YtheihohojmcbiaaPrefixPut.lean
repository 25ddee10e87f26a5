/-
  Package prefix: code, put.
-/
import Derived.Test.YtheihohojmcbiaaPrefixSpec
import Derived.Test.YtheihohojmcbiaaKitBytes
import Derived.Test.YtheihohojmcbiaaTail
import Derived.Test.YtheihohojmcbiaaMix
namespace Go.Mine
theorem str_at {bs : List UInt8} {k : Nat} (hks : k < (str bs).size) (hkb : k < bs.length) : (str bs)[k]'hks = bs[k]'hkb := by show (str bs).data[k]'_ = _; simp [str]
end Go.Mine
namespace Go.Proofs.Ytheihohojmcbiaa
open Go.RowKit Go.Mine

abbrev Tr (w : World) (base b : Nat) (v : Value) (mb n : Nat) (t : List TNode) (f : Int → Option ByteArray) (m : Nat) : Prop :=
  TreeAt Try.prog 3 85 89 w base b v mb n t f m

set_option maxRecDepth 100000 in
theorem code_any (w : World) (bs : List UInt8) (hl : bs.length ≤ 9223372036854775807) : Calls Try.prog 80 #[.string (str bs)] w fun e w' => e = .returned (.bool (codeB bs)) ∧ w = w' := by
  have hsz := str_size bs
  obtain ⟨n, hn⟩ : ∃ n, (str bs).size = n := ⟨_, rfl⟩
  have hl2 : n ≤ 9223372036854775807 := by omega
  have HB := Lib.hid (hsz.symm.trans hn)
  clear hsz hl
  go_enter Try.func80, Try.ntmps80
  go_wp2_with fail
  go_loop [3, 6] (fun _ i => ∃ k : Nat, k ≤ n ∧ i = .int .i64 (k : Int) ∧ Hid (∀ j c, j < k → bs[j]? = some c → c = 48 ∨ c = 49)) (fun _ i => n - (intOf i).toNat)
  case atStart => exact ⟨0, by omega, rfl, Lib.hid (fun j c hj => absurd hj (by omega))⟩
  case round =>
    obtain ⟨k, hk, rfl, HZ⟩ := hrel
    by_cases hlt : k < n
    · have hks : k < (str bs).size := by omega
      have hkb : k < bs.length := by rw [HB.out]; omega
      have hget := str_at hks hkb
      by_cases hc : bs[k]'hkb = 48 ∨ bs[k]'hkb = 49
      · have HZ2 : Hid (∀ j c, j < k + 1 → bs[j]? = some c → c = 48 ∨ c = 49) := Lib.hid (fun j c hj hjc => by
          by_cases hjk : j = k
          · subst hjk; rw [List.getElem?_eq_getElem hkb] at hjc; injection hjc with hjc; rw [← hjc]; exact hc
          · exact HZ.out j c (by omega) hjc)
        rcases hc with hc | hc
        · have hv : (((str bs)[k]'hks).toNat : Int) = 48 := by rw [hget, hc]; rfl
          clear hget hc
          go_wp2_with fail
          go_round
          case rel => exact ⟨k + 1, by omega, by go_num, HZ2⟩
          case measure => simp [intOf]; omega
        · have hv : (((str bs)[k]'hks).toNat : Int) = 49 := by rw [hget, hc]; rfl
          clear hget hc
          go_wp2_with fail
          go_round
          case rel => exact ⟨k + 1, by omega, by go_num, HZ2⟩
          case measure => simp [intOf]; omega
      · have hv1 : ((((str bs)[k]'hks).toNat : Int) == 48) = false := by rw [hget]; simp; exact fun e => hc (.inl (UInt8.toNat_inj.1 (by simpa using (by omega : (bs[k]'hkb).toNat = 48))))
        have hv2 : ((((str bs)[k]'hks).toNat : Int) == 49) = false := by rw [hget]; simp; exact fun e => hc (.inr (UInt8.toNat_inj.1 (by simpa using (by omega : (bs[k]'hkb).toNat = 49))))
        have hv3 : ((((str bs)[k]'hks).toNat : Int) != 48) = true := by rw [bne, hv1]; rfl
        have hv4 : ((((str bs)[k]'hks).toNat : Int) != 49) = true := by rw [bne, hv2]; rfl
        have hcode : codeB bs = false := by
          rw [Bool.eq_false_iff]
          intro hcb
          exact hc (((codeB_iff bs).1 hcb).1 _ (List.getElem_mem hkb))
        clear hget hc
        go_wp2_with fail
        go_ret
        exact ⟨by first | rfl | rw [hcode], rfl⟩
    · have hbin : ∀ c ∈ bs, c = 48 ∨ c = 49 := fun c hc => by
        obtain ⟨j, hj⟩ := List.getElem?_of_mem hc
        have h1 := (List.getElem?_eq_some_iff.1 hj).1
        have h2 := HB.out
        exact HZ.out j c (by omega) hj
      have hcode : codeB bs = (decide (1 ≤ n) && decide (n ≤ 24)) := by
        rw [← HB.out, Bool.eq_iff_iff, codeB_iff]
        simp
        exact fun _ _ => hbin
      obtain rfl : k = n := by omega
      clear hbin HZ HB
      rcases Nat.eq_zero_or_pos k with h0 | h0
      · subst h0
        have h3 : codeB bs = false := hcode
        clear hcode
        go_wp2_with fail
        go_ret
        exact ⟨by first | rfl | rw [h3], rfl⟩
      · have h1 : decide ((1 : Int) ≤ (k : Int)) = true := decide_eq_true (by omega)
        have h2 : decide ((k : Int) ≤ 24) = decide (k ≤ 24) := by rw [decide_eq_decide]; omega
        have h3 : codeB bs = decide (k ≤ 24) := by rw [hcode, decide_eq_true (show 1 ≤ k from h0), Bool.true_and]
        clear hcode
        go_wp2_with fail
        go_ret
        exact ⟨by first | rfl | (rw [h3]; done) | (rw [h3]; rfl) | (simp; omega), rfl⟩

set_option maxRecDepth 100000 in
theorem none_no (w : World) {base b mb n m : Nat} {v : Value} {t : List TNode} {f : Int → Option ByteArray} (h : Tr w base b v mb n t f m) (hm : 0 < m) : Calls Try.prog 68 #[.pointer (some ⟨b, 0, none⟩)] w fun e w' => e = .returned (.bool false) ∧ w = w' := by
  have c2 := h.blk.cell (i := 2) rfl
  have hz : ((m : Int) == 0) = false := by simp; omega
  clear h
  go_enter Try.func68, Try.ntmps68
  go_wp2
  go_ret
  exact ⟨rfl, rfl⟩

@[local go_sem] theorem eq2 (a b c d : Int) (w : World) : (Op.equalIn 10000 83 (.agg #[.int .i64 a, .int .i64 b]) (.agg #[.int .i64 c, .int .i64 d])).run Try.prog w = .ok (a == c && b == d) w := by
  have u3 := Try.underlying3
  have a3 := Try.isAgg3
  have z3 := Try.sizeOf3
  rw [show (10000 : Nat) = 9999 + 1 from rfl, Op.equalIn]
  simp only [Sem.run_bind, run_underlying Try.underlying83, Result.andThen_ok]
  simp only [Std.Legacy.Range.forIn_eq_forIn_range', Std.Legacy.Range.size, Nat.sub_zero, Nat.add_sub_cancel, Nat.div_one, List.range'_succ, List.range'_zero, List.forIn_cons, List.forIn_nil]
  go_simp
  by_cases h1 : a = c <;> by_cases h2 : b = d <;> simp [h1, h2]

theorem Try.infoNode : (Try.prog.info? 85).map (fun i => (i.zero, i.size, i.bytes)) = some (some (.agg #[.int .i64 0, .int .i64 0, .bool false, .int .i64 0]), 4, 32) := by kernel_rfl

/-- What put leaves. -/
def PutEnd (base b mb n m : Nat) (t : List TNode) (f : Int → Option ByteArray) (bs : List UInt8) (num : Int) (w : World) (e : Ending) (w' : World) : Prop :=
  Below base w w' ∧ ((put1 t (bls bs) num = none ∧ e = .returned (.bool false)) ∨
    ∃ t' v', put1 t (bls bs) num = some t' ∧ e = .returned (.bool true) ∧ Tr w' base b v' mb (n + 1) t' (tellOnce f num (str bs)) (m + 1))

set_option maxRecDepth 100000 in
set_option maxHeartbeats 1000000 in
theorem put_any (w : World) {base b mb n m : Nat} {v : Value} {t : List TNode} {f : Int → Option ByteArray} (h : Tr w base b v mb n t f m) (hbase : base ≤ w.heap.size) (bs : List UInt8) (hbin : ∀ c ∈ bs, c = 48 ∨ c = 49) (hl : bs.length ≤ 24) (ht : t.length ≤ 1000000)
    (hm : m ≤ 1000000) (hn : n ≤ 900000) (num : Int) (hnum : -9223372036854775808 ≤ num ∧ num ≤ 9223372036854775807) :
    Calls Try.prog 81 #[.pointer (some ⟨b, 0, none⟩), .string (str bs), .int .i64 num] w fun e w' => PutEnd base b mb n m t f bs num w e w' := by
  have hsz := str_size bs
  obtain ⟨N, hN⟩ : ∃ N, (str bs).size = N := ⟨_, rfl⟩
  have hl2 : N ≤ 24 := by omega
  have HB := Lib.hid (And.intro (hsz.symm.trans hN) hbin)
  clear hsz hl hbin
  go_enter Try.func81, Try.ntmps81
  go_wp2_with fail
  go_loopw [7, 8, 9, 14] (fun a _ _ i wr => ∃ (k a' : Nat) (t' : List TNode) (v' : Value), k ≤ N ∧ i = .int .i64 (k : Int) ∧ a = .int .i64 (a' : Int) ∧ a' < t'.length ∧ t'.length ≤ t.length + k ∧
    Hid (putF t 0 (bls bs) = putF t' a' (bls (bs.drop k))) ∧ Tr wr base b v' mb n t' f m ∧ Below base w wr) (fun _ _ _ i _ => N - (intOf i).toNat)
  case atStart => exact ⟨0, 0, t, v, by omega, rfl, rfl, h.pos, by omega, Lib.hid rfl, h, Below.refl _ _⟩
  case round =>
    clear h
    obtain ⟨k, a', t', v', hk, rfl, rfl, ha, htl, HP, hT, hbel⟩ := hrel
    obtain ⟨nd, hnd⟩ : ∃ nd, t'[a']? = some nd := ⟨_, List.getElem?_eq_getElem ha⟩
    obtain ⟨g, off, cap, rfl, hgb, hgl, hcap⟩ := hT.sl.form hT.pos
    obtain ⟨L, hL⟩ : ∃ L, t'.length = L := ⟨_, rfl⟩
    rw [hL] at ha htl hcap
    have c0 := hT.blk.cell (i := 0) rfl
    have c1 := hT.blk.cell (i := 1) rfl
    have c2 := hT.blk.cell (i := 2) rfl
    rw [hL] at c0
    have n0 := hT.node0 (by rw [hL]) hnd
    have n1 := hT.nodej (by rw [hL]) hnd 1 rfl
    have n2 := hT.nodej (by rw [hL]) hnd 2 rfl
    have HT := Lib.hid (And.intro hT (And.intro hnd (And.intro hL hbel)))
    clear hT hnd hL hbel
    by_cases hlt : k < N
    · have hks : k < (str bs).size := by omega
      have hkb : k < bs.length := by rw [HB.out.1]; exact hlt
      obtain ⟨xb, hxb⟩ : ∃ xb, ((bs[k]'hkb) == 49) = xb := ⟨_, rfl⟩
      have hdrop : bls (bs.drop k) = xb :: bls (bs.drop (k + 1)) := by
        rw [List.drop_eq_getElem_cons hkb, ← hxb]
        rfl
      obtain ⟨x, hx⟩ : ∃ x, xb.toNat = x := ⟨_, rfl⟩
      obtain ⟨q, hq⟩ : ∃ q, nd.to xb = q := ⟨_, rfl⟩
      have hv : (((str bs)[k]'hks).toNat : Int) = 48 + (x : Int) := by
        rw [str_at hks hkb, ← hx, ← hxb]
        rcases HB.out.2 _ (List.getElem_mem hkb) with hc | hc <;> rw [hc] <;> rfl
      have hx2 : x < 2 := by rw [← hx]; cases xb <;> decide
      have hqL : q < L := by rw [← hq, ← HT.out.2.2.1]; exact HT.out.1.wf.to HT.out.2.1 xb
      have hP1 : putF t 0 (bls bs) = if nd.leaf then none else if q = 0 then putF (grow t' a' nd xb) L (bls (bs.drop (k + 1))) else putF t' q (bls (bs.drop (k + 1))) := by
        rw [HP.out, hdrop, putF]
        have hg : t'.getD a' TNode.mt = nd := by rw [List.getD_eq_getElem?_getD, HT.out.2.1]; rfl
        simp only [hg, hq, HT.out.2.2.1]
      have nx : wr.cell? ⟨g, off + a' * 4 + x, none⟩ = some (.int .i64 (q : Int)) := by
        refine HT.out.1.nodej (by rw [HT.out.2.2.1]) HT.out.2.1 x ?_
        rw [← hx, ← hq]
        cases xb <;> rfl
      have hw8 : IntKind.u8.wrap (48 + (x : Int) - 48) = (x : Int) := by rw [IntKind.wrap_u8]; omega
      have HX := Lib.hid (And.intro hx hq)
      clear hdrop HP hxb hx n0 n1 hq
      by_cases hlf : nd.leaf = true
      · rw [hlf] at n2
        rw [if_pos hlf] at hP1
        have hput : put1 t (bls bs) num = none := by unfold put1; rw [hP1]
        have HQ := Lib.hid hput
        clear hP1 hput nx
        go_wp2_with fail
        go_ret
        exact (show PutEnd base b mb n m t f bs num w (.returned (.bool false)) _ from ⟨HT.out.2.2.2, .inl ⟨HQ.out, rfl⟩⟩)
      · rw [if_neg hlf] at hP1
        have hlf' : nd.leaf = false := by simpa using hlf
        rw [hlf'] at n2
        clear hlf hlf'
        by_cases h0 : q = 0
        · rw [if_pos h0] at hP1
          subst h0
          have HP := Lib.hid hP1
          clear hP1
          obtain ⟨i0, hi0, hz0, hz1, hz2⟩ := info_parts Try.infoNode
          have hs' : Sl (wr.alloc (.cells #[.int .i64 0, .int .i64 0, .bool false, .int .i64 0] 85)) base 85 4 (.slice (some ⟨g, off, none⟩) L cap) L (t'.flatMap ncell) := by
            have := HT.out.1.sl.alloc (.cells #[.int .i64 0, .int .i64 0, .bool false, .int .i64 0] 85)
            rwa [HT.out.2.2.1] at this
          have hB' : Blk (wr.alloc (.cells #[.int .i64 0, .int .i64 0, .bool false, .int .i64 0] 85)) b 89 [.slice (some ⟨g, off, none⟩) L cap, .map (some mb), .int .i64 (m : Int)] := by
            have := HT.out.1.blk.alloc (.cells #[.int .i64 0, .int .i64 0, .bool false, .int .i64 0] 85)
            rwa [HT.out.2.2.1] at this
          have hrd := Rd.lit (size := 4) wr [.int .i64 0, .int .i64 0, .bool false, .int .i64 0] 85 1 rfl
          have hsz : base ≤ wr.heap.size := by have := HT.out.2.2.2.size; omega
          have hgb' : g ≠ b := fun e => HT.out.1.ne_sl (by simp [Value.ownBlock, e])
          have hb0 := hB'.cell (i := 0) rfl
          have hLs : L ≤ 1000024 := by omega
          go_wp2_with (at_builtin; refine wpList_append_sl rfl _ _ 86 rfl base 85 i0 _ 4 32 Try.underlying86 hi0 hz0 hz1 hz2 rfl (by decide) (.slice (some ⟨g, off, none⟩) L cap) _ _ rfl hs' _ 1 _ rfl hrd (by simp [Value.oneCell']) (by simp only [maxLen]; omega) (by omega) (by simp; omega) ?_; intro v5 w5 hs5 hg5 hat5; obtain ⟨g5, off5, cap5, rfl, hgb5, hgl5, hcap5⟩ := hs5.form (by omega); have hB5 := hB'.grown hg5 (by simp [Value.ownBlock]; exact Ne.symm hgb'); have z0 := hB5.cell (i := 0) rfl; have zf := hB5.free 0)
          generalize hw6 : World.setCell w5 _ _ = w6
          obtain ⟨hT, hnd, hL, hbel⟩ := HT.out
          have hB6 : Blk w6 b 89 [.slice (some ⟨g5, off5, none⟩) (L + 1) cap5, .map (some mb), .int .i64 (m : Int)] := by rw [← hw6]; exact hB5.set 0 _
          have hg5b : g5 ≠ b := fun e => hs5.ne_blk hB5 hT.ne (by simp [Value.ownBlock, e])
          have hS6 : Sl w6 base 85 4 (.slice (some ⟨g5, off5, none⟩) (L + 1) cap5) (L + 1) ((t' ++ [TNode.mt]).flatMap ncell) := by
            rw [← hw6, flat_more]; exact hs5.setCell (by simp [Value.ownBlock]; exact hg5b) _
          have hmg : mb ≠ g := fun e => hT.sl_map (by simp [Value.ownBlock, e])
          have hM6 : MapIs Try.prog 3 w6 mb n f := by
            rw [← hw6]; exact ((hT.map.alloc _).grown hg5 (by simp [Value.ownBlock]; exact hmg)).setCell hT.ne_map _
          have hbel6 : Below base w w6 := by
            rw [← hw6]
            refine Below.setCell ?_ (by simp; exact hT.bb) _
            have h1 : OnlyIn [g] wr w5 := ((OnlyIn.refl _ _).alloc _).grown hg5 (by simp [Value.ownBlock])
            exact hbel.trans (h1.below hsz (by simp; exact hgb))
          have hwf : WFt (grow t' a' nd xb) := hT.wf.grow hnd xb
          have hcell : ((t' ++ [TNode.mt]).flatMap ncell)[a' * 4 + x]? = some (.int .i64 0) := by
            rw [flat_get ncell_length _ a' x (by omega), List.getElem?_append_left (by omega), hnd]
            rw [← HX.out.1]
            have h2 := HX.out.2
            revert h2
            cases xb <;> intro h2 <;> simp [TNode.to] at h2 <;> simp [ncell, h2]
          have c6 := hS6.cell_at rfl hcell
          have f6 := hS6.free_at rfl (off5 + a' * 4 + x)
          rw [← Nat.add_assoc] at c6
          have d0 := hB6.cell (i := 0) rfl
          have hw1 : IntKind.i64.wrap ((L : Int) + 1 - 1) = (L : Int) := by rw [IntKind.wrap_i64]; omega
          have hT7 : Tr (w6.drew.setCell ⟨g5, off5 + a' * 4 + x, none⟩ (.int .i64 (L : Int))) base b (.slice (some ⟨g5, off5, none⟩) (grow t' a' nd xb).length cap5) mb n (grow t' a' nd xb) f m := by
            have hgl : (grow t' a' nd xb).length = L + 1 := by simp [grow, hL]
            have hgr : (t' ++ [TNode.mt])[a']? = some nd := by rw [List.getElem?_append_left (by omega)]; exact hnd
            refine ⟨?_, ?_, ?_, hT.bb, hT.bm, hwf, by omega, hT.ne⟩
            · rw [hgl]; exact hB6.drew.far (Ne.symm hg5b) _
            · have h1 := hS6.drew.stored rfl (a' * 4 + x) (.int .i64 (L : Int))
              rw [← HX.out.1, flat_child hgr xb L, HX.out.1, ← Nat.add_assoc] at h1
              rw [hgl]
              unfold grow
              rw [hL]
              exact h1
            · exact hM6.drew.setCell (fun e => by
                obtain ⟨cur, hc⟩ := hS6.type_ g5 (by simp [Value.ownBlock])
                exact hM6.ne_cells hc e) _
          have hbel7 : Below base w (w6.drew.setCell ⟨g5, off5 + a' * 4 + x, none⟩ (.int .i64 (L : Int))) := hbel6.drew.setCell hgb5 _
          have hgl : (grow t' a' nd xb).length = L + 1 := by simp [grow, hL]
          have b0 := hT7.blk.cell (i := 0) rfl
          have bx : (w6.drew.setCell ⟨g5, off5 + a' * 4 + x, none⟩ (.int .i64 (L : Int))).cell? ⟨g5, off5 + a' * 4 + x, none⟩ = some (.int .i64 (L : Int)) := by
            refine hT7.nodej rfl (x := nd.setTo xb L) ?_ x ?_
            · unfold grow; rw [hL, List.getElem?_set_self (by simp; omega)]
            · rw [← HX.out.1]; cases xb <;> rfl
          rw [hgl] at b0
          have ha1 : (a' : Int) < (L : Int) + 1 := by omega
          have hx2i : (x : Int) < 2 := by omega
          have HT7 := Lib.hid (And.intro hT7 (And.intro hbel7 hgl))
          clear hT hnd hL hbel hB6 hS6 hM6 hbel6 hwf hcell hT7 hbel7 hgl hs5 hB5 z0 zf hg5 hat5 HT hw6 hs' hB' hb0 c0 c1 c2 n2 nx hrd
          (refine Go.Mine.wp_region_tail 15 (by kernel_rfl) (by kernel_rfl) ?_; simp only [List.take_succ_cons, List.take_zero, List.drop_succ_cons, List.drop_zero]; (repeat (refine Go.wpStill_step (fun K hK => ?_); go_simp; first | (refine hK _ ?_; clear hK K) | (apply Exists.intro; refine ⟨?_, hK _ ?_⟩; (fail); clear hK K))); refine Go.wpStill_nil ?_)
          go_wp2_with fail
          go_roundw
          case rel =>
            obtain ⟨hT7, hbel7, hgl⟩ := HT7.out
            exact ⟨k + 1, L, grow t' a' nd xb, _, by omega, by go_num, rfl, by omega, by omega, HP, hT7, hbel7⟩
          case measure => simp [intOf]; omega
        · rw [if_neg h0] at hP1
          have hz : ((q : Int) == 0) = false := by simp; exact h0
          have HP := Lib.hid hP1
          clear hP1 h0
          go_wp2_with fail
          go_roundw
          case rel =>
            obtain ⟨hT, hnd, hL, hbel⟩ := HT.out
            exact ⟨k + 1, q, t', _, by omega, by go_num, rfl, by omega, by omega, HP, hT, hbel⟩
          case measure => simp [intOf]; omega
    · obtain rfl : k = N := by omega
      have hend : putF t 0 (bls bs) = some (t', a') := by
        rw [HP.out, List.drop_eq_nil_of_le (by have := HB.out.1; omega)]
        rfl
      have hput : put1 t (bls bs) num = if nd.leaf = true ∨ nd.t0 ≠ 0 ∨ nd.t1 ≠ 0 then none else some (t'.set a' { nd with leaf := true, num := num }) := by
        unfold put1
        rw [hend]
        have hg : t'.getD a' TNode.mt = nd := by rw [List.getD_eq_getElem?_getD, HT.out.2.1]; rfl
        simp only [hg]
      clear hend HP
      have hld := run_loadAt_mid (P := Try.prog) wr g (off + a' * 4) 83 _ _ (HT.out.1.range2 (by rw [HT.out.2.2.1]) HT.out.2.1) Try.underlying83 rfl (by kernel_rfl)
      by_cases hlf : nd.leaf = true
      · rw [hlf] at n2
        rw [if_pos (.inl hlf)] at hput
        have HQ := Lib.hid hput
        clear hput hld
        go_wp2_with fail
        go_ret
        exact (show PutEnd base b mb n m t f bs num w (.returned (.bool false)) _ from ⟨HT.out.2.2.2, .inl ⟨HQ.out, rfl⟩⟩)
      · have hlf' : nd.leaf = false := by simpa using hlf
        rw [hlf'] at n2
        by_cases h0 : nd.t0 = 0
        · by_cases h1 : nd.t1 = 0
          · rw [if_neg (by simp [hlf', h0, h1])] at hput
            rw [h0] at n0 hld
            rw [h1] at n1 hld
            clear h0 h1
            have n3 := HT.out.1.nodej (by rw [HT.out.2.2.1]) HT.out.2.1 3 rfl
            have hgb' : g ≠ b := fun e => HT.out.1.ne_sl (by simp [Value.ownBlock, e])
            have e2 := HT.out.1.sl.free_at (by rw [HT.out.2.2.1]) (off + a' * 4 + 2)
            have e3 := HT.out.1.sl.free_at (by rw [HT.out.2.2.1]) (off + a' * 4 + 3)
            have hne : ∀ p ∈ [(⟨g, off + a' * 4 + 2, none⟩ : Addr), ⟨g, off + a' * 4 + 3, none⟩], p ≠ ⟨b, 0, none⟩ := by simp [hgb']
            go_wp2_with fail
            (refine Go.Mine.wp_region_mix [(13, ⟨g, off + a' * 4 + 2, none⟩), (16, ⟨g, off + a' * 4 + 3, none⟩)] (by kernel_rfl) (by kernel_rfl) ?_ ?_; (focus (first | (simp [List.pairwise_cons]; done) | (simp [List.pairwise_cons]; omega))); (repeat (refine Go.Mine.mix_step _ _ (by first | rfl | go_simp) (fun W hW => by (have d0 := (hW.cell hne).trans c0; obtain ⟨y2, d2⟩ := hW.ex n2; obtain ⟨y3, d3⟩ := hW.ex n3; have q2 := (hW.frozen _).trans e2; have q3 := (hW.frozen _).trans e3; go_simp; simp only [Go.Mine.Oper.mixUpon]; first | exact ⟨rfl, (show W = Go.Mine.app none W from rfl)⟩ | exact ⟨rfl, (show W.setCell _ _ = Go.Mine.app (some (_, _)) W from rfl)⟩)) (by intro p u h; cases h; try rfl) ?_; simp only [Go.Mine.app]; go_simp)); refine Go.Mine.mix_nil ?_)
            generalize hw2 : World.drew (World.setCell (World.setCell wr _ _) _ _) = w2
            obtain ⟨hT, hnd, hL, hbel⟩ := HT.out
            obtain ⟨t2, ht2⟩ : ∃ t2, t'.set a' { nd with leaf := true, num := num } = t2 := ⟨_, rfl⟩
            have hB2 : Blk w2 b 89 [.slice (some ⟨g, off, none⟩) L cap, .map (some mb), .int .i64 (m : Int)] := by
              rw [← hw2, ← hL]; exact ((hT.blk.far (Ne.symm hgb') _).far (Ne.symm hgb') _).drew
            have hmg : mb ≠ g := fun e => hT.sl_map (by simp [Value.ownBlock, e])
            have hM2 : MapIs Try.prog 3 w2 mb n f := by rw [← hw2]; exact ((hT.map.setCell hmg _).setCell hmg _).drew
            have hS2 : Sl w2 base 85 4 (.slice (some ⟨g, off, none⟩) t2.length cap) t2.length (t2.flatMap ncell) := by
              have h1 := (hT.sl.stored rfl (a' * 4 + 2) (.bool true)).stored rfl (a' * 4 + 3) (.int .i64 num)
              rw [flat_leaf hnd] at h1
              rw [← hw2, ← ht2, List.length_set]
              rw [← Nat.add_assoc, ← Nat.add_assoc] at h1
              exact h1.drew
            have hbel2 : Below base w w2 := by rw [← hw2]; exact ((hbel.setCell hgb _).setCell hgb _).drew
            have hwf2 : WFt t2 := by rw [← ht2]; exact hT.wf.set hnd _ _
            have hL2 : t2.length = L := by rw [← ht2, List.length_set]; exact hL
            have hput2 : put1 t (bls bs) num = some t2 := by rw [hput, ht2]
            have hbb := hT.bb
            have hbm := hT.bm
            have hmb := hT.ne_map
            have hgsz : base ≤ w2.heap.size := by have := hbel2.size; omega
            clear hput hw2 hT hnd hL hbel HT n0 n1 n2 n3 e2 e3 hne hld c0 c1 c2
            have c0 := hB2.cell (i := 0) rfl
            have c1 := hB2.cell (i := 1) rfl
            have c2 := hB2.cell (i := 2) rfl
            have f2 := hB2.free 2
            have hlk := hM2.look (t := 87) Try.underlying3 Try.underlying87 (by kernel_rfl) num hnum
            have HQ := Lib.hid (And.intro hput2 (And.intro hwf2 (And.intro hbel2 (And.intro hL2 hS2))))
            clear hput2 hwf2 hbel2 hL2 hS2
            obtain ⟨s0, hs0⟩ : ∃ s0, (f num).getD ⟨#[]⟩ = s0 := ⟨_, rfl⟩
            rw [hs0] at hlk
            have hA := hB2.alloc (.cells #[.string s0] 99)
            have hMA := hM2.alloc (.cells #[.string s0] 99)
            have a0 := hA.cell (i := 0) rfl
            have a1 := hA.cell (i := 1) rfl
            have a2 := hA.cell (i := 2) rfl
            have fa2 := hA.free 2
            have hw1 : IntKind.i64.wrap ((m : Int) + 1) = (m : Int) + 1 := by rw [IntKind.wrap_i64]; omega
            have hfin : ∀ (w4 : World) (f' : Int → Option ByteArray), Blk w4 b 89 [.slice (some ⟨g, off, none⟩) L cap, .map (some mb), .int .i64 (m : Int)] → MapIs Try.prog 3 w4 mb (n + 1) f' → OnlyIn [mb] w2 w4 → tellOnce f num (str bs) = f' →
                PutEnd base b mb n m t f bs num w (.returned (.bool true)) (w4.setCell ⟨b, 2, none⟩ (.int .i64 ((m : Int) + 1))) := by
              intro w4 f' hB4 hM4 ho hf'
              obtain ⟨hput2, hwf2, hbel2, hL2, hS2⟩ := HQ.out
              have hmg : mb ≠ g := fun e => by
                obtain ⟨cur, hc⟩ := hS2.type_ g (by simp [Value.ownBlock])
                exact hM2.ne_cells hc e
              have hS4 := hS2.only ho (fun k hk => by simp [Value.ownBlock] at hk; subst hk; simp; exact Ne.symm hmg)
              refine ⟨(hbel2.trans (ho.below hgsz (by simp; exact hbm))).setCell hbb _, .inr ⟨t2, _, hput2, rfl, ?_, hS4.setCell (by simp [Value.ownBlock]; exact hgb') _, ?_, hbb, hbm, hwf2, by omega, by decide⟩⟩
              · have := hB4.set 2 (.int .i64 ((m : Int) + 1))
                rw [hL2]
                exact this
              · rw [hf']
                exact hM4.setCell hmb _
            have HFIN := Lib.hid hfin
            clear hfin HQ hs0
            by_cases hf : (f num).isSome = true
            · rw [hf] at hlk
              have HF := Lib.hid (HFIN.out _ f hA ⟨_, (hMA.choose_spec.1).mono (by omega), hMA.choose_spec.2⟩ ((OnlyIn.refl _ _).alloc _) (tellOnce_yes hf))
              clear HFIN hf
              go_wp2_with fail
              go_ret
              exact HF.out
            · have hf' : (f num).isSome = false := by simpa using hf
              rw [hf'] at hlk
              have HF := Lib.hid hf'
              clear hf hf'
              go_wp2_with (first | (at_mapUpdate; refine wpList_mapUpdate_told rfl _ _ _ 87 rfl Try.underlying3 Try.underlying87 mb n f hMA (by omega) rfl num hnum (str bs) rfl rfl ?_; intro w4 hM4 hg4; have hA4 := hA.grown hg4 (by simp; exact Ne.symm hmb); have x0 := hA4.cell (i := 0) rfl; have x1 := hA4.cell (i := 1) rfl; have x2 := hA4.cell (i := 2) rfl; have fx2 := hA4.free 2) | fail)
              go_ret
              exact HFIN.out w4 _ hA4 hM4 (((OnlyIn.refl _ _).alloc _).grown hg4 (by simp)) (tellOnce_no HF.out)
          · rw [if_pos (.inr (.inr h1))] at hput
            rw [h0] at hld n0
            have hz : ((nd.t1 : Int) == 0) = false := by simp; exact h1
            have HQ := Lib.hid hput
            clear hput h0 h1
            go_wp2_with fail
            go_ret
            exact (show PutEnd base b mb n m t f bs num w (.returned (.bool false)) _ from ⟨HT.out.2.2.2, .inl ⟨HQ.out, rfl⟩⟩)
        · rw [if_pos (.inr (.inl h0))] at hput
          have hz : ((nd.t0 : Int) == 0) = false := by simp; exact h0
          have HQ := Lib.hid hput
          clear hput h0
          go_wp2_with fail
          go_ret
          exact (show PutEnd base b mb n m t f bs num w (.returned (.bool false)) _ from ⟨HT.out.2.2.2, .inl ⟨HQ.out, rfl⟩⟩)
end Go.Proofs.Ytheihohojmcbiaa
