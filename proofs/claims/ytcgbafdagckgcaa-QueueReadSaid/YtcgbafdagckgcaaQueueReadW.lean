/-
  Law 02: QueueRead: the walk.
-/
import Derived.Test.YtcgbafdagckgcaaLaw02
import Derived.Test.YtcgbafdagckgcaaActs02
import Derived.Test.YtcgbafdagckgcaaQueueNewW
import Derived.Laws.BitsAllLaws
namespace Go.Mine
open Go.RowKit
theorem bitAt_drop {bs : List UInt8} {d i : Nat} : bitAt (bs.drop d) i = bitAt bs (8 * d + i) := by
  unfold bitAt shAt
  rw [List.getD_eq_getElem?_getD, List.getD_eq_getElem?_getD, List.getElem?_drop, show (8 * d + i) / 8 = d + i / 8 by omega, show (8 * d + i) % 8 = i % 8 by omega]
end Go.Mine
namespace Go.Proofs.Ytcgbafdagckgcaa
open Go.RowKit Go.Mine

set_option maxRecDepth 100000 in
theorem bit02_any (w : World) (v : Value) (bs : List UInt8) (hr : Rd w 1 v bs.length (byteCells bs)) (i : Nat) (hi : i < 8 * bs.length) (hl : bs.length ≤ 1000000000) :
    Calls Try.prog 47 #[v, .int .i64 (i : Int)] w fun e w' => e = .returned (.int .i64 (bitAt bs i : Int)) ∧ w = w' := by
  obtain ⟨-, A, c, rfl, hc, hA⟩ := hr
  obtain ⟨g, off, rfl, hg⟩ := hA (by omega)
  have hq : i / 8 < bs.length := by omega
  have q0 := hg (i / 8) (.int .u8 ((bs[i / 8]'hq).toNat : Int)) (by simp [byteCells, List.getElem?_eq_getElem hq])
  obtain ⟨q, hqq⟩ : ∃ q, i / 8 = q := ⟨_, rfl⟩
  obtain ⟨r, hrr⟩ : ∃ r, i % 8 = r := ⟨_, rfl⟩
  obtain ⟨s, hss⟩ : ∃ s, 7 - r = s := ⟨_, rfl⟩
  have e1 : (i : Int).tdiv 8 = (q : Int) := by rw [Int.tdiv_eq_ediv_of_nonneg (by omega)]; omega
  have e1' : (i : Int) / 8 = (q : Int) := by omega
  have e2 : (i : Int).tmod 8 = (r : Int) := by rw [Int.tmod_eq_emod_of_nonneg (by omega)]; omega
  have e2' : (i : Int) % 8 = (r : Int) := by omega
  have e3 : 7 - (r : Int) = (s : Int) := by omega
  have e4 : IntKind.u64.wrap (s : Int) = (s : Int) := by rw [IntKind.wrap_u64]; omega
  have hs := shAt_lt bs i
  obtain ⟨X, hX⟩ : ∃ X, (bs[i / 8]'hq).toNat = X := ⟨_, rfl⟩
  obtain ⟨z, hz⟩ : ∃ z, X / 2 ^ s = z := ⟨_, rfl⟩
  have hsz : shAt bs i = z := by rw [← hz, ← hX, ← hss, ← hrr]; simp [shAt, List.getElem?_eq_getElem hq]
  have e5 : (X : Int) / 2 ^ s = (z : Int) := by rw [← hz]; push_cast; rfl
  obtain ⟨b, hb⟩ : ∃ b, bitAt bs i = b := ⟨_, rfl⟩
  have hbz : z % 2 = b := by rw [← hb, bitAt, hsz]
  have e6 : (z : Int).tmod 2 = (b : Int) := by rw [Int.tmod_eq_emod_of_nonneg (by omega)]; omega
  have e6' : (z : Int) % 2 = (b : Int) := by omega
  rw [hX, hqq] at q0
  rw [hsz] at hs
  have hrl : r < 8 := by omega
  have hql : q < bs.length := by omega
  have hX8 : X < 256 := by rw [← hX]; exact UInt8.toNat_lt _
  rw [hb]
  clear hX hz hsz hb hbz hg hA hqq hrr hss
  go_enter Try.func47, Try.ntmps47
  go_wp2
  go_ret
  exact ⟨rfl, rfl⟩

/-- The queue, and all that came. -/
structure Rd02 (w : World) (b r f base : Nat) (v : Value) (N : Nat) (all : List UInt8) (read : Nat) : Prop where
  qu : Qu w b r N f (all.drop (read / 8)) (read % 8) all.length read false
  sl : Sl w base 5 1 v all.length (byteCells all)
  rd : read ≤ 8 * all.length
section
variable {w w' : World} {b r f base : Nat} {v : Value} {N : Nat} {all : List UInt8} {read : Nat}
theorem Rd02.only0 (h : Rd02 w b r f base v N all read) (ht : OnlyIn [] w w') : Rd02 w' b r f base v N all read := ⟨h.qu.only ht (by simp) (by simp), h.sl.only ht (by simp), h.rd⟩
end

set_option maxRecDepth 100000 in
theorem qu_cast {w : World} {b r N f p p' came came' gone gone' : Nat} {xs xs' : List UInt8} {over : Bool} (h : Qu w b r N f xs p came gone over) (hx : xs = xs') (hp : p = p') (hc : came = came') (hg : gone = gone') : Qu w b r N f xs' p' came' gone' over := by
  subst hx hp hc hg; exact h

set_option maxRecDepth 100000 in
set_option maxHeartbeats 8000000 in
theorem QueueRead_walk {w : World} (most : Int) (hm : -9223372036854775808 ≤ most ∧ most ≤ 9223372036854775807) (x : Value × List Act02) (hx : Rd w 3 x.1 x.2.length (x.2.flatMap Act02.cells) ∧ (∀ a ∈ x.2, a.ok w) ∧ x.2.length ≤ maxLen) :
    Calls Try.prog 10 #[.int .i64 most, x.1] w fun e w' => e = .returned (.bool true) ∧ OnlyIn [] w w' := by
  obtain ⟨i0, hi0, hz0, hz1, hz2⟩ := info_parts Try.infoB
  obtain ⟨vl, l⟩ := x
  obtain ⟨hr, hok, hml⟩ := hx
  simp only at hr hok hml ⊢
  have hr' := hr
  obtain ⟨-, A, c, rfl, hc, -⟩ := hr'
  have p1 := fun w => Pick_any most 40 w (by omega) (by omega) hm.1 hm.2
  obtain ⟨n0, hn0⟩ := Int.eq_ofNat_of_zero_le (by omega : 0 ≤ most % 40)
  have hn1 : n0 < 40 := by omega
  rw [hn0] at p1
  have hwn : IntKind.i64.wrap (1 + (n0 : Int)) = 1 + (n0 : Int) := by rw [IntKind.wrap_i64]; omega
  have hnew := fun W => qNew_ok W (n0 + 1) (by omega) (by omega)
  rw [show ((n0 + 1 : Nat) : Int) = 1 + (n0 : Int) by omega] at hnew
  clear hn0 hm
  by_cases hsm : Small02 l
  · have hlong := fun W (hW : OnlyIn [] w W) => Long02_no W (.slice A l.length c) l (hr.cells fun p u hp => hW.cell hp (by simp)) (acts02_form hok) hsm
    have h60 := hsm.1
    have HS := Lib.hid (And.intro hsm.2 (And.intro hok hr))
    clear hsm hok hr hml
    go_enter Try.func10, Try.ntmps10
    go_wp2_with fail
    refine (known_any02 _).mono ?_
    rintro e w1 ⟨rfl, t1⟩
    go_wp2_with fail
    refine (p1 _).mono ?_
    rintro e w' ⟨rfl, rfl⟩
    go_wp2_with fail
    refine (hnew _).mono ?_
    rintro e w2 ⟨rfl, hq2, t2⟩
    have o2 := t1.trans t2
    have hw1 : w.heap.size ≤ w1.heap.size := t1.size
    have hlt2 := hq2.lt
    clear p1 hnew t1 t2
    obtain ⟨r, hre⟩ : ∃ r, w1.heap.size = r := ⟨_, rfl⟩
    obtain ⟨b, hbe⟩ : ∃ b, w1.heap.size + 1 = b := ⟨_, rfl⟩
    rw [hbe, hre] at hq2 hlt2
    rw [hbe]
    have hwr : w.heap.size ≤ r := by omega
    have hwb : w.heap.size ≤ b := by omega
    have hrb : r < b := by omega
    obtain ⟨N, hN⟩ : ∃ N, n0 + 1 = N := ⟨_, rfl⟩
    rw [hN] at hq2
    have hNi : 1 + (n0 : Int) = (N : Int) := by omega
    have hN1 : 1 ≤ N ∧ N ≤ 40 := by omega
    have hR2 : Rd02 w2 b r 0 (b + 1) (.slice none 0 0) N [] 0 := ⟨hq2, Sl.nil _ _ _ _, by simp⟩
    have hgr : ∀ x, x < w.heap.size → x ≠ b ∧ x ≠ r := fun x hx => by omega
    clear hre hbe hq2
    go_wp2_with fail
    refine (hlong _ o2).mono ?_
    rintro e w' ⟨rfl, rfl⟩
    clear hlong
    have hz2' : b + 1 ≤ w2.heap.size := hlt2.1
    have HQ := Lib.hid (And.intro hR2 o2)
    clear hR2 o2
    go_wp2_with fail
    go_loopw [8, 9, 10, 11, 12, 13, 14, 15, 16] (fun va rv iv _ _ _ _ _ _ wr => ∃ (k f : Nat) (all : List UInt8) (read : Nat), k ≤ l.length ∧ iv = .int .i64 (k : Int) ∧ rv = .int .i64 (read : Int) ∧ Rd02 wr b r f (b + 1) va N all read ∧ all.length ≤ 100 * k ∧ OnlyIn [] w wr ∧ b + 1 ≤ wr.heap.size) (fun _ _ iv _ _ _ _ _ _ _ => l.length - (intOf iv).toNat)
    case atStart => exact ⟨0, 0, [], 0, by omega, rfl, rfl, HQ.out.1, by simp, HQ.out.2, hz2'⟩
    case round =>
      clear HQ hz2' hlt2
      obtain ⟨k, f, all, read, hk, rfl, rfl, hB, hall, hto, hsz⟩ := hrel
      by_cases hlt : k < l.length
      · obtain ⟨g, off, c', hv, q0, q1, q2⟩ := act02_cells HS.out.2.2 hlt
        injection hv with hv _ hcc
        subst hv hcc
        have hgl : g < w.heap.size := World.block_lt_of_cell? w _ q0
        have p0 := hto.cell q0 (by simp)
        have p1 := hto.cell q1 (by simp)
        have p2 := hto.cell q2 (by simp)
        obtain ⟨hk1, hn1', hrd, hbl⟩ := HS.out.2.1 _ (List.getElem_mem hlt)
        have h100 := HS.out.1 _ (List.getElem_mem hlt)
        obtain ⟨a, ha⟩ : ∃ a, l[k]'hlt = a := ⟨_, rfl⟩
        rw [ha] at p0 p1 p2 hk1 hn1' hrd hbl h100
        obtain ⟨kd, n, vact, bs⟩ := a
        simp only at p0 p1 p2 hk1 hn1' hrd hbl h100
        have hrda := fun W (hW : OnlyIn [] w W) => hrd.cells (w' := W) fun p u hp => hW.cell hp (by simp)
        have hold := Rd.old hrd hwr
        obtain ⟨-, Aa, ca, rfl, hca, -⟩ := hrd
        have hmeas : l.length - (k + 1) < l.length - k := by omega
        have hk61 : k + 1 ≤ l.length := by omega
        have hrq := hB.rd
        have hXl : (all.drop (read / 8)).length = all.length - read / 8 := List.length_drop
        obtain ⟨Av, cv, rfl, hcv⟩ := hB.sl.val
        have hgn : g ≠ b ∧ g ≠ r := hgr g hgl
        have hlv : ∀ g', (Value.slice Av all.length cv).ownBlock = some g' → b + 1 ≤ g' ∧ g' < wr.heap.size := fun g' hg' => hB.sl.own_lt g' hg'
        have hqN := hB.qu.len
        clear q0 q1 q2 ha hbl
        -- what is asked at the end of a round
        have fin : ∀ (w6 : World) (f6 : Nat) (v6 : Value) (all6 : List UInt8) (read6 : Nat), Rd02 w6 b r f6 (b + 1) v6 N all6 read6 → ∀ W, OnlyIn [] w6 W →
            (Calls Try.prog 36 #[.pointer (some ⟨b, 0, none⟩)] W fun e w' => e = .returned (.int .i64 (8 * (all6.length : Int) - (read6 : Int))) ∧ OnlyIn [] W w') ∧
            (Calls Try.prog 42 #[.pointer (some ⟨b, 0, none⟩)] W fun e w' => e = .returned (.int .i64 (read6 : Int)) ∧ OnlyIn [] W w') ∧
            (Calls Try.prog 43 #[.pointer (some ⟨b, 0, none⟩)] W fun e w' => e = .returned (.int .i64 (all6.length : Int)) ∧ OnlyIn [] W w') ∧
            (Calls Try.prog 38 #[.pointer (some ⟨b, 0, none⟩)] W fun e w' => e = .returned (.int .i64 ((N : Int) - ((all6.length : Int) - (read6 : Int) / 8))) ∧ OnlyIn [] W w') := by
          intro w6 f6 v6 all6 read6 h6 W hW
          have hq := h6.qu.only hW (by simp) (by simp)
          have hl6 : (all6.drop (read6 / 8)).length = all6.length - read6 / 8 := List.length_drop
          have hrd6 := h6.rd
          have e1 : 8 * ((all6.drop (read6 / 8)).length : Int) - ((read6 % 8 : Nat) : Int) = 8 * (all6.length : Int) - (read6 : Int) := by rw [hl6]; omega
          have e2 : (N : Int) - ((all6.drop (read6 / 8)).length : Int) = (N : Int) - ((all6.length : Int) - (read6 : Int) / 8) := by rw [hl6]; omega
          refine ⟨(qLeft_any W hq).mono ?_, (qGone_any W hq).mono ?_, (qCame_any W hq).mono ?_, (qFree_any W hq).mono ?_⟩
          · rintro e w' ⟨rfl, k, rfl⟩; exact ⟨by rw [e1], (OnlyIn.refl _ _).drewN k⟩
          · rintro e w' ⟨rfl, rfl⟩; exact ⟨rfl, OnlyIn.refl _ _⟩
          · rintro e w' ⟨rfl, rfl⟩; exact ⟨rfl, OnlyIn.refl _ _⟩
          · rintro e w' ⟨rfl, t⟩; exact ⟨by rw [e2], t⟩
        by_cases c0 : kd.tmod 2 = 0
        · have hd0 : (kd.tmod 2 == 0) = true := by simp [c0]
          obtain ⟨m, hme⟩ : ∃ m, min bs.length (N - (all.length - read / 8)) = m := ⟨_, rfl⟩
          have hf := qFeed_ok wr hB.qu (.slice Aa bs.length ca) bs (hrda wr hto) hold (by omega) (by omega)
          rw [hXl, hme] at hf
          have hmb : m ≤ bs.length := by omega
          have hmc : m ≤ ca := by omega
          have htk : bs.take m = bs.take (N - (all.length - read / 8)) := by
            rcases Nat.lt_or_ge bs.length (N - (all.length - read / 8)) with h1 | h1
            · rw [List.take_of_length_le (by omega), List.take_of_length_le (by omega)]
            · rw [show m = N - (all.length - read / 8) by omega]
          rw [← htk] at hf
          have hm0 : ¬ (m : Int) < 0 := by omega
          have hmb2 : ¬ (bs.length : Int) < (m : Int) := by omega
          have hm100 : m ≤ 100 := by omega
          have hsum : all.length + m ≤ 100 * (k + 1) := by omega
          have hlen2 : (all ++ bs.take m).length = all.length + m := by simp; omega
          have hdr : (all.drop (read / 8)) ++ bs.take m = (all ++ bs.take m).drop (read / 8) := by rw [List.drop_append_of_le_length (by omega)]
          have hfz : m < bs.length → N - (all.length + m - read / 8) = 0 := by omega
          have HH := Lib.hid (And.intro hB (And.intro hto (And.intro hall (And.intro hme (And.intro htk (And.intro hlen2 hdr))))))
          clear hB hto hall hme htk hlen2 hdr c0
          go_wp2_with fail
          refine hf.mono ?_
          rintro e w3 ⟨rfl, hq3, t3⟩
          obtain ⟨hB, hto, hall, hme, htk, hlen2, hdr⟩ := HH.out
          have o3 : OnlyIn [] w w3 := hto.then t3 (by simp; omega)
          have hs3 := hB.sl.only t3 (fun g' hg' => by have := hlv g' hg'; simp; omega)
          have hq3' : Qu w3 b r N f ((all ++ bs.take m).drop (read / 8)) (read % 8) (all ++ bs.take m).length read false := qu_cast hq3 hdr rfl hlen2.symm rfl
          have p0 := t3.cell p0 (by simp; omega)
          have p2 := t3.cell p2 (by simp; omega)
          have hz3 : b + 1 ≤ w3.heap.size := Nat.le_trans hsz t3.size
          have hfree := qFree_any w3 hq3'
          have hl8 : ((all ++ bs.take m).drop (read / 8)).length = all.length + m - read / 8 := by rw [List.length_drop, hlen2]
          obtain ⟨F, hF⟩ : ∃ F : Int, (N : Int) - (((all ++ bs.take m).drop (read / 8)).length : Int) = F := ⟨_, rfl⟩
          have hF0 : m < bs.length → ¬ 0 < F := by intro h; have := hfz h; rw [← hF, hl8]; omega
          rw [hF] at hfree
          have hrt := fun W (hW : OnlyIn [] w W) => Rd.take (hrda W hW) hmb hmc
          have HH3 := Lib.hid (And.intro hq3' (And.intro hs3 (And.intro o3 (And.intro hlen2 hF))))
          clear hf hB hto hall hme htk hlen2 hdr hq3 hq3' hs3 o3 t3 HH hl8 hF hXl hqN
          have rest : ∀ (w4 : World), OnlyIn [] w3 w4 → Sl w4 (b + 1) 5 1 (.slice Av all.length cv) all.length (byteCells all) ∧ OnlyIn [] w w4 ∧ w4.cell? ⟨g, off + k * 3 + 2, none⟩ = some (.slice Aa bs.length ca) ∧ b + 1 ≤ w4.heap.size := fun w4 h4 => ⟨HH3.out.2.1.only h4 (by simp), HH3.out.2.2.1.trans h4, h4.cell p2 (by simp), Nat.le_trans hz3 h4.size⟩
          by_cases hlt3 : m < bs.length
          · have hFn := hF0 hlt3
            have hlt3i : (m : Int) < (bs.length : Int) := by omega
            go_wp2_with fail
            refine hfree.mono ?_
            rintro e w4 ⟨rfl, t4⟩
            clear hfree
            have hs4 := (rest w4 t4).1
            have o4 := (rest w4 t4).2.1
            have p2 := (rest w4 t4).2.2.1
            have hz4 := (rest w4 t4).2.2.2
            have hrt4 := hrt w4 o4
            have hq4 := HH3.out.1.only t4 (by simp) (by simp)
            clear rest hrt
            obtain ⟨Z, hZ⟩ : ∃ Z, all.length + m = Z := ⟨_, rfl⟩
            have hZb : Z ≤ 100 * (k + 1) := by omega
            go_wp2_with (at_builtin; refine wpList_append_sl rfl _ _ 54 rfl (b + 1) 5 i0 _ 1 1 Try.underlying54 hi0 hz0 hz1 hz2 rfl (by decide) (.slice Av all.length cv) all.length (byteCells all) rfl hs4 (.slice Aa m ca) m (byteCells (bs.take m)) rfl hrt4 (byteCells_one _) (by simp only [maxLen]; omega) (by omega) hz4 ?_; intro v5 w5 hs5 hg5 hat5; rw [← byteCells_append, hZ] at hs5; obtain ⟨A5, c5, rfl, hc5⟩ := hs5.val)
            have t5 : OnlyIn (Value.slice Av all.length cv).ownBlock.toList w4 w5 := (OnlyIn.refl _ _).grown hg5 (fun g' hg' => .inl (by simp [hg']))
            have o5 : OnlyIn [] w w5 := o4.then t5 (fun j hj => by have := hlv j (by simpa using hj); exact .inr (by omega))
            have hz5 : b + 1 ≤ w5.heap.size := Nat.le_trans hz4 t5.size
            have hlenZ : (all ++ bs.take m).length = Z := by rw [HH3.out.2.2.2.1, hZ]
            have hRd : Rd02 w5 b r f (b + 1) (.slice A5 Z c5) N (all ++ bs.take m) read := by
              refine ⟨hq4.only t5 (fun hm' => ?_) (fun hm' => ?_), by rw [hlenZ]; exact hs5, by rw [hlenZ, ← hZ]; omega⟩
              · have := hlv b (by simpa using hm'); omega
              · have := hlv r (by simpa using hm'); omega
            clear hs5 hg5 hat5 t5 hs4 o4 hrt4 hq4 HH3 hZ hsum p2 p0 p1
            have cE := fun W hW => fin w5 _ _ _ _ hRd W hW
            rw [hlenZ] at cE
            obtain ⟨q8, hq8⟩ : ∃ q8, read / 8 = q8 := ⟨_, rfl⟩
            have hdv : ((read : Nat) : Int) / 8 = (q8 : Int) := by omega
            have htd : ((read : Nat) : Int).tdiv 8 = (q8 : Int) := by rw [Int.tdiv_eq_ediv_of_nonneg (by omega)]; exact hdv
            rw [hdv] at cE
            have hq8b : q8 ≤ Z := by have := hRd.rd; omega
            have HE := Lib.hid (And.intro hRd (And.intro o5 (And.intro hlenZ hz5)))
            clear hRd o5 hlenZ hz5 fin hq8
            go_wp2_with fail
            refine (cE w5 (OnlyIn.refl _ _)).1.mono ?_
            rintro e w6 ⟨rfl, t6⟩
            go_wp2_with fail
            refine (cE w6 t6).2.1.mono ?_
            rintro e w7 ⟨rfl, t7⟩
            have t7 := t6.trans t7
            clear t6
            go_wp2_with fail
            refine (cE w7 t7).2.2.1.mono ?_
            rintro e w8 ⟨rfl, t8⟩
            have t8 := t7.trans t8
            clear t7
            go_wp2_with fail
            refine (cE w8 t8).2.2.2.mono ?_
            rintro e w9 ⟨rfl, t9⟩
            have t9 := t8.trans t9
            clear t8 cE
            go_wp2_with fail
            go_roundw
            case rel => exact ⟨k + 1, _, _, _, hk61, by go_num, by go_num, HE.out.1.only0 t9, by rw [HE.out.2.2.1]; omega, HE.out.2.1.trans t9, Nat.le_trans HE.out.2.2.2 t9.size⟩
            case measure => simp [intOf]; omega
          · have hlt3i : ¬ (m : Int) < (bs.length : Int) := by omega
            have t4 := OnlyIn.refl [] w3
            clear hfree
            have hs4 := (rest w3 t4).1
            have o4 := (rest w3 t4).2.1
            have p2 := (rest w3 t4).2.2.1
            have hz4 := (rest w3 t4).2.2.2
            have hrt4 := hrt w3 o4
            have hq4 := HH3.out.1.only t4 (by simp) (by simp)
            clear rest hrt
            obtain ⟨Z, hZ⟩ : ∃ Z, all.length + m = Z := ⟨_, rfl⟩
            have hZb : Z ≤ 100 * (k + 1) := by omega
            go_wp2_with (at_builtin; refine wpList_append_sl rfl _ _ 54 rfl (b + 1) 5 i0 _ 1 1 Try.underlying54 hi0 hz0 hz1 hz2 rfl (by decide) (.slice Av all.length cv) all.length (byteCells all) rfl hs4 (.slice Aa m ca) m (byteCells (bs.take m)) rfl hrt4 (byteCells_one _) (by simp only [maxLen]; omega) (by omega) hz4 ?_; intro v5 w5 hs5 hg5 hat5; rw [← byteCells_append, hZ] at hs5; obtain ⟨A5, c5, rfl, hc5⟩ := hs5.val)
            have t5 : OnlyIn (Value.slice Av all.length cv).ownBlock.toList w3 w5 := (OnlyIn.refl _ _).grown hg5 (fun g' hg' => .inl (by simp [hg']))
            have o5 : OnlyIn [] w w5 := o4.then t5 (fun j hj => by have := hlv j (by simpa using hj); exact .inr (by omega))
            have hz5 : b + 1 ≤ w5.heap.size := Nat.le_trans hz4 t5.size
            have hlenZ : (all ++ bs.take m).length = Z := by rw [HH3.out.2.2.2.1, hZ]
            have hRd : Rd02 w5 b r f (b + 1) (.slice A5 Z c5) N (all ++ bs.take m) read := by
              refine ⟨hq4.only t5 (fun hm' => ?_) (fun hm' => ?_), by rw [hlenZ]; exact hs5, by rw [hlenZ, ← hZ]; omega⟩
              · have := hlv b (by simpa using hm'); omega
              · have := hlv r (by simpa using hm'); omega
            clear hs5 hg5 hat5 t5 hs4 o4 hrt4 hq4 HH3 hZ hsum p2 p0 p1
            have cE := fun W hW => fin w5 _ _ _ _ hRd W hW
            rw [hlenZ] at cE
            obtain ⟨q8, hq8⟩ : ∃ q8, read / 8 = q8 := ⟨_, rfl⟩
            have hdv : ((read : Nat) : Int) / 8 = (q8 : Int) := by omega
            have htd : ((read : Nat) : Int).tdiv 8 = (q8 : Int) := by rw [Int.tdiv_eq_ediv_of_nonneg (by omega)]; exact hdv
            rw [hdv] at cE
            have hq8b : q8 ≤ Z := by have := hRd.rd; omega
            have HE := Lib.hid (And.intro hRd (And.intro o5 (And.intro hlenZ hz5)))
            clear hRd o5 hlenZ hz5 fin hq8
            go_wp2_with fail
            refine (cE w5 (OnlyIn.refl _ _)).1.mono ?_
            rintro e w6 ⟨rfl, t6⟩
            go_wp2_with fail
            refine (cE w6 t6).2.1.mono ?_
            rintro e w7 ⟨rfl, t7⟩
            have t7 := t6.trans t7
            clear t6
            go_wp2_with fail
            refine (cE w7 t7).2.2.1.mono ?_
            rintro e w8 ⟨rfl, t8⟩
            have t8 := t7.trans t8
            clear t7
            go_wp2_with fail
            refine (cE w8 t8).2.2.2.mono ?_
            rintro e w9 ⟨rfl, t9⟩
            have t9 := t8.trans t9
            clear t8 cE
            go_wp2_with fail
            go_roundw
            case rel => exact ⟨k + 1, _, _, _, hk61, by go_num, by go_num, HE.out.1.only0 t9, by rw [HE.out.2.2.1]; omega, HE.out.2.1.trans t9, Nat.le_trans HE.out.2.2.2 t9.size⟩
            case measure => simp [intOf]; omega
        · have hd0 : (kd.tmod 2 == 0) = false := by simp [c0]
          have hpk := fun W => Pick_any n (8 * (all.length : Int) - (read : Int) + 1) W (by omega) (by omega) hn1'.1 hn1'.2
          obtain ⟨y, hy⟩ := Int.eq_ofNat_of_zero_le (Int.emod_nonneg n (by omega : 8 * (all.length : Int) - (read : Int) + 1 ≠ 0))
          have hyb : read + y ≤ 8 * all.length := by
            have := Int.emod_lt_of_pos n (by omega : 0 < 8 * (all.length : Int) - (read : Int) + 1)
            omega
          rw [hy] at hpk
          have hbits := qBits_any wr hB.qu
          have hskip := fun W hW => qSkip_ok W (hB.qu.only (S := []) (w' := W) hW (by simp) (by simp)) y (by rw [hXl]; omega) (by omega)
          obtain ⟨m8, hm8⟩ : ∃ m8, read % 8 = m8 := ⟨_, rfl⟩
          have hm8b : m8 < 8 := by omega
          obtain ⟨X, hX⟩ : ∃ X, all.drop (read / 8) = X := ⟨_, rfl⟩
          have hbe : ∀ j, bitAt X (m8 + j) = bitAt all (read + j) := fun j => by rw [← hX, bitAt_drop, ← hm8]; congr 1; omega
          have hXR : 8 * X.length = 8 * all.length - read + m8 := by rw [← hX, hXl]; omega
          have hXge : ¬ 8 * (X.length : Int) - (m8 : Int) < (y : Int) := by omega
          rw [hX, hm8] at hbits
          have hXs : X.length ≤ 1000000 := by omega
          have hyi : (y : Int) ≤ 8 * (all.length : Int) - (read : Int) := by omega
          have hsl := hB.sl
          have HH := Lib.hid (And.intro hB (And.intro hto (And.intro hX (And.intro hm8 (And.intro hbe (And.intro hXR (And.intro hXl hall)))))))
          have hall60 : all.length ≤ 6000 := by omega
          clear hB hto hy hX hm8 hbe hXR hXl c0 hqN hall
          go_wp2_with fail
          refine (hpk _).mono ?_
          rintro e w' ⟨rfl, rfl⟩
          clear hpk
          go_wp2_with fail
          refine hbits.mono ?_
          rintro e w3 ⟨u, rfl, hu, t3⟩
          obtain ⟨Au, cu, rfl, hcu⟩ := hu.val
          have hru := Rd.of_sl hu
          have hra := (Rd.of_sl hsl).cells (w' := w3) fun p u hp => t3.cell hp (by simp)
          have p0 := t3.cell p0 (by simp)
          clear hbits hu hsl
          go_wp2_with fail
          go_loop [16] (fun jv => ∃ j : Nat, j ≤ y ∧ jv = .int .i64 (j : Int)) (fun jv => y - (intOf jv).toNat)
          case atStart => exact ⟨0, by omega, rfl⟩
          case round =>
            obtain ⟨j, hj, rfl⟩ := hrel
            by_cases hjy : j < y
            · obtain ⟨hB, hto, hX, hm8, hbe, hXR, hXl, hall⟩ := HH.out
              have hb1 := bit02_any w3 _ X hru (m8 + j) (by omega) (by omega)
              have hb2 := bit02_any w3 _ all hra (read + j) (by omega) (by omega)
              rw [hbe j] at hb1
              obtain ⟨z, hz⟩ : ∃ z, bitAt all (read + j) = z := ⟨_, rfl⟩
              rw [hz, show ((m8 + j : Nat) : Int) = (m8 : Int) + (j : Int) by omega] at hb1
              rw [hz, show ((read + j : Nat) : Int) = (read : Int) + (j : Int) by omega] at hb2
              clear hB hto hX hm8 hbe hXR hXl hall hz
              go_wp2_with fail
              refine hb1.mono ?_
              rintro e w' ⟨rfl, hw'⟩
              subst hw'
              clear hb1
              go_wp2_with fail
              refine hb2.mono ?_
              rintro e w' ⟨rfl, hw'⟩
              subst hw'
              clear hb2
              go_wp2_with fail
              go_round
              case rel => exact ⟨j + 1, by omega, by go_num⟩
              case measure => simp [intOf]; omega
            · have hjy' : j = y := by omega
              subst hjy'
              have hsk := hskip w3 t3
              clear hskip hru hra
              go_wp2_with fail
              refine hsk.mono ?_
              rintro e w5 ⟨rfl, hq5, t5⟩
              obtain ⟨hB, hto, hX, hm8, hbe, hXR, hXl, hall⟩ := HH.out
              have o5 : OnlyIn [] w w5 := (hto.trans t3).then t5 (by simp; omega)
              have hz5 : b + 1 ≤ w5.heap.size := Nat.le_trans hsz (Nat.le_trans t3.size t5.size)
              have hs5 := (hB.sl.only t3 (by simp)).only t5 (fun g' hg' => by have := hlv g' hg'; simp; omega)
              have hRd : Rd02 w5 b r ((f + (read % 8 + j) / 8) % N) (b + 1) (.slice Av all.length cv) N all (read + j) := ⟨qu_cast hq5 (by rw [List.drop_drop]; congr 1; omega) (by omega) rfl rfl, hs5, by omega⟩
              obtain ⟨Z, hZ⟩ : ∃ Z, all.length = Z := ⟨_, rfl⟩
              have hZb : Z ≤ 100 * (k + 1) := by omega
              obtain ⟨Y, hY⟩ : ∃ Y, read + j = Y := ⟨_, rfl⟩
              have hYi : (read : Int) + (j : Int) = (Y : Int) := by omega
              rw [hY] at hRd
              have hlenZ := hZ
              rw [hZ] at hRd hrq hyi hyb hall60 hlv ⊢
              have hYb : Y ≤ 8 * Z := by omega
              clear hB hto hX hm8 hbe hXR hXl hall hsk hq5 t5 hs5 HH hZ hY
              have cE := fun W hW => fin w5 _ _ _ _ hRd W hW
              rw [hlenZ] at cE
              obtain ⟨q8, hq8⟩ : ∃ q8, Y / 8 = q8 := ⟨_, rfl⟩
              have hdv : ((Y : Nat) : Int) / 8 = (q8 : Int) := by omega
              have htd : ((Y : Nat) : Int).tdiv 8 = (q8 : Int) := by rw [Int.tdiv_eq_ediv_of_nonneg (by omega)]; exact hdv
              rw [hdv] at cE
              have hq8b : q8 ≤ Z := by have := hRd.rd; omega
              have HE := Lib.hid (And.intro hRd (And.intro o5 (And.intro hlenZ hz5)))
              clear hRd o5 hlenZ hz5 fin hq8
              go_wp2_with fail
              refine (cE w5 (OnlyIn.refl _ _)).1.mono ?_
              rintro e w6 ⟨rfl, t6⟩
              go_wp2_with fail
              refine (cE w6 t6).2.1.mono ?_
              rintro e w7 ⟨rfl, t7⟩
              have t7 := t6.trans t7
              clear t6
              go_wp2_with fail
              refine (cE w7 t7).2.2.1.mono ?_
              rintro e w8 ⟨rfl, t8⟩
              have t8 := t7.trans t8
              clear t7
              go_wp2_with fail
              refine (cE w8 t8).2.2.2.mono ?_
              rintro e w9 ⟨rfl, t9⟩
              have t9 := t8.trans t9
              clear t8 cE
              go_wp2_with fail
              go_roundw
              case rel => exact ⟨k + 1, _, _, _, hk61, by go_num, by go_num, HE.out.1.only0 t9, by rw [HE.out.2.2.1]; omega, HE.out.2.1.trans t9, Nat.le_trans HE.out.2.2.2 t9.size⟩
              case measure => simp [intOf]; omega
      · obtain rfl : k = l.length := by omega
        have HT := Lib.hid hto
        clear hB hto
        go_wp2_with fail
        go_ret
        exact ⟨rfl, HT.out⟩
  · have hlong := fun W (hW : OnlyIn [] w W) => Long02_yes W (.slice A l.length c) l (hr.cells fun p u hp => hW.cell hp (by simp)) hml (acts02_form hok) (fun a ha => (hok a ha).2.2.2) hsm
    clear hsm hok hr hml
    go_enter Try.func10, Try.ntmps10
    go_wp2_with fail
    refine (known_any02 _).mono ?_
    rintro e w1 ⟨rfl, t1⟩
    go_wp2_with fail
    refine (p1 _).mono ?_
    rintro e w' ⟨rfl, rfl⟩
    go_wp2_with fail
    refine (hnew _).mono ?_
    rintro e w2 ⟨rfl, hq2, t2⟩
    have o2 := t1.trans t2
    go_wp2_with fail
    refine (hlong _ o2).mono ?_
    rintro e w' ⟨rfl, rfl⟩
    clear hlong
    go_wp2_with fail
    go_ret
    exact ⟨rfl, o2⟩
end Go.Proofs.Ytcgbafdagckgcaa
