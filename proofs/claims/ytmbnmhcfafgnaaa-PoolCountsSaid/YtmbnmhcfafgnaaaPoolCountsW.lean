/-
  Law 23: PoolCounts: the walk.
-/
import Derived.Test.YtmbnmhcfafgnaaaKnown23
import Derived.Test.YtmbnmhcfafgnaaaOpen23
import Derived.Test.YtmbnmhcfafgnaaaCountsLaw
import Derived.Test.YtmbnmhcfafgnaaaKit
import Derived.Deep.CutBlock
namespace Go.Proofs.Ytmbnmhcfafgnaaa
open Go.RowKit Go.Mine

theorem mk_ints (n : Nat) (hn : n ≤ 1000000) (W : World) : (Instr.makeSlice 27 (.int .i64 (n : Int)) (.int .i64 (n : Int))).run Try.prog W = .ok (.slice (some ⟨W.heap.size, 0, none⟩) n n) (W.alloc (.cells (intCells (List.replicate n 0)).toArray 3)) := by
  obtain ⟨i0, hi0, hz0, hz1, hz2⟩ := info_parts Try.infoI23
  have hmk := run_make_n (P := Try.prog) 27 3 i0 (.int .i64 0) Try.underlying27 hi0 hz0 .i64 .i64 n (by rw [hz2]; omega) (by omega) W
  have hmf : madeCells (Value.int .i64 0).cells (n * i0.size) = (intCells (List.replicate n 0)).toArray := by
    rw [hz1, Nat.mul_one]
    apply Array.ext'
    apply List.ext_getElem?
    intro j
    simp only [madeCells, Value.cells, intCells, List.map_replicate]
    rw [List.getElem?_replicate]
    by_cases hj : j < n
    · simp [hj, Nat.mod_one]
    · simp [hj]
  rw [hmf] at hmk
  exact hmk

/-- What holds at each round of PoolCounts. -/
structure CI (w0 w : World) (base b hb N T : Nat) (q : Int) (fs : List Fr) (L : List Nat) (hs : List Int) (H : Int) : Prop where
  cp : CP fs N q H
  pl : PlS w base b N T q fs L
  blk : Blk w hb 3 (intCells hs)
  nl : hb ∉ L
  only : OnlyIn [] w0 w
  hge : w0.heap.size ≤ hb
  bge : w0.heap.size ≤ base
section
variable {w0 w w' : World} {base b hb N T : Nat} {q : Int} {fs fs' : List Fr} {L : List Nat} {hs : List Int} {H : Int}
theorem CI.go (h : CI w0 w base b hb N T q fs L hs H) {T' : Nat} {H' : Int} (hg : PlGo w w' base b N T' q fs' L) (hc : CP fs' N q H') : ∃ L', CI w0 w' base b hb N T' q fs' L' hs H' := by
  obtain ⟨L', h1, ht, hl⟩ := hg
  refine ⟨L', hc, h1, h.blk.only ht h.nl, fun hm => ?_, h.only.then ht (fun k hk => .inr (Nat.le_trans h.bge (h.pl.lo k hk))), h.hge, h.bge⟩
  rcases hl hb hm with hh | hh
  · exact h.nl hh
  · have := h.blk.lt
    omega
theorem CI.put (h : CI w0 w base b hb N T q fs L hs H) (i : Nat) (x : Int) : CI w0 (w.setCell ⟨hb, i, none⟩ (.int .i64 x)) base b hb N T q fs L (hs.set i x) H := by
  have ht : OnlyIn [hb] w (w.setCell ⟨hb, i, none⟩ (.int .i64 x)) := (OnlyIn.refl _ _).setCell (.inl (by simp)) _
  refine ⟨h.cp, h.pl.only ht (fun k hk => ?_), ?_, h.nl, h.only.setCell (.inr h.hge) _, h.hge, h.bge⟩
  · simp only [List.mem_singleton] at hk
    rw [hk]; exact h.nl
  · have := h.blk.set i (.int .i64 x)
    rw [show (intCells hs).set i (.int .i64 x) = intCells (hs.set i x) by simp [intCells, List.map_set]] at this
    exact this
theorem CI.drew (h : CI w0 w base b hb N T q fs L hs H) (n : Nat) : CI w0 (w.drewN n) base b hb N T q fs L hs H :=
  ⟨h.cp, h.pl.only (S := []) (by (repeat (first | (with_reducible assumption) | (with_reducible exact OnlyIn.refl _ _) | (with_reducible refine OnlyIn.setCell ?_ (by first | simp | (simp; omega)) _) | (with_reducible refine OnlyIn.drewN ?_ _) | (with_reducible refine OnlyIn.drew ?_) | (with_reducible refine OnlyIn.alloc ?_ _)))) (by simp), h.blk.drewN n, h.nl, h.only.drewN n, h.hge, h.bge⟩
set_option maxRecDepth 100000 in
theorem CI.cell (h : CI w0 w base b hb N T q fs L hs H) {i : Nat} {x : Int} (hx : hs[i]? = some x) : w.cell? ⟨hb, i, none⟩ = some (.int .i64 x) := h.blk.cell (by simp [intCells, hx])

set_option maxRecDepth 100000 in
set_option maxHeartbeats 4000000 in
theorem counts_ok (w : World) (a0 a1 : Int) (N : Nat) (q : Int) (hN : (N : Int) = 1 + a0 % 10) (hq : q = 1 + a1 % N) (g0 : -9223372036854775808 ≤ a0 ∧ a0 ≤ 9223372036854775807) (g1 : -9223372036854775808 ≤ a1 ∧ a1 ≤ 9223372036854775807) (A : Option Addr) (c : Nat) (acts : List Act23) (hA : 0 < acts.length → ∃ g off, A = some ⟨g, off, none⟩ ∧ ∀ j u, (acts.flatMap Act23.cells)[j]? = some u → w.cell? ⟨g, off + j, none⟩ = some u)
    (hok : ∀ a ∈ acts, a.ok) (hac : acts.length ≤ 80) :
    Calls Try.prog 9 #[.int .i64 a0, .int .i64 a1, .slice A acts.length c] w fun e w' => e = .returned (.bool true) ∧ OnlyIn [] w w' := by
  have HA := Lib.hid hA
  have HK := Lib.hid hok
  have hN1 : 1 ≤ N ∧ N ≤ 10 := by omega
  have hq1 : 1 ≤ q ∧ q ≤ N := by
    have h1 := Int.emod_nonneg a1 (show (N : Int) ≠ 0 by omega)
    have h2 := Int.emod_lt_of_pos a1 (show (0 : Int) < N by omega)
    omega
  have hw1 : IntKind.i64.wrap (1 + a0 % 10) = (N : Int) := by rw [IntKind.wrap_i64]; omega
  have hw2 : IntKind.i64.wrap (1 + a1 % (N : Int)) = q := by rw [IntKind.wrap_i64]; omega
  have hp1 := fun W => Pick_any a0 10 W (by omega) (by omega) g0.1 g0.2
  have hp2 := fun W => Pick_any a1 N W (by omega) (by omega) g1.1 g1.2
  obtain ⟨n, hn⟩ : ∃ n, acts.length = n := ⟨_, rfl⟩
  have HN := Lib.hid hn
  rw [hn] at hac ⊢
  have hl1 : decide (80 < (n : Int)) = false := decide_eq_false (by omega)
  have hl2 : decide (80 < n) = false := decide_eq_false (by omega)
  clear hA hok hn
  generalize hx1 : a0 % 10 = x1 at hp1 hw1 hN
  generalize hx2 : a1 % (N : Int) = x2 at hp2 hw2 hq
  have HE := Lib.hid (And.intro hN hq)
  clear hx1 hx2 hN hq
  go_enter Try.func9, Try.ntmps9
  go_wp2_with fail
  refine (known23 w).mono ?_
  rintro e w1 ⟨rfl, o1⟩
  go_wp2_with fail
  refine (hp1 _).mono ?_
  rintro e w' ⟨rfl, rfl⟩
  go_wp2_with fail
  refine (hp2 _).mono ?_
  rintro e w' ⟨rfl, rfl⟩
  have hnw := pNew_ok w1 N q (by omega)
  clear hp1 hp2
  go_wp2_with fail
  refine hnw.mono ?_
  rintro e w2 ⟨b, B, iv, rfl, hP, t2⟩
  clear hnw
  have hmk := mk_ints N (by omega) w2
  have hCI : CI w (w2.alloc (.cells (intCells (List.replicate N 0)).toArray 3)) w1.heap.size b w2.heap.size N 0 q (emptyFs N) (ownL b B iv) (List.replicate N 0) 0 :=
    ⟨CP.empty N q (by omega), hP.pls.only (S := []) (by (repeat (first | (with_reducible assumption) | (with_reducible exact OnlyIn.refl _ _) | (with_reducible refine OnlyIn.setCell ?_ (by first | simp | (simp; omega)) _) | (with_reducible refine OnlyIn.drewN ?_ _) | (with_reducible refine OnlyIn.drew ?_) | (with_reducible refine OnlyIn.alloc ?_ _)))) (by simp), Blk.new w2 3 _, fun hm => by have := hP.pls.lt _ hm; omega, (o1.trans t2).alloc _, Nat.le_trans o1.size t2.size, o1.size⟩
  have hCI := Lib.hid hCI
  obtain ⟨hb, hhb⟩ : ∃ k, w2.heap.size = k := ⟨_, rfl⟩
  obtain ⟨base, hbase⟩ : ∃ k, w1.heap.size = k := ⟨_, rfl⟩
  rw [hhb, hbase] at hCI
  rw [hhb] at hmk
  clear hP t2 o1
  go_wp2_with fail
  generalize World.alloc w2 _ = w3 at hCI ⊢
  clear hmk hhb hbase
  go_loopw [11] (fun i wr => ∃ (k : Nat) (fs : List Fr) (L : List Nat) (hs : List Int), k ≤ n ∧ i = .int .i64 (k : Int) ∧ Hid (CI w wr base b hb N (64 * k) q fs L hs (k : Int)) ∧ Hid (HsAt hs N fs)) (fun i _ => n - (RowKit.intOf i).toNat)
  case atStart => exact ⟨0, emptyFs N, _, _, by omega, rfl, hCI, Lib.hid (HsAt.empty N)⟩
  case round =>
    clear hCI
    obtain ⟨k, fs, L, hs, hk, rfl, HC, HH⟩ := hrel
    by_cases hlt : k < n
    · obtain ⟨g, off, rfl, hg⟩ := HA.out (by rw [HN.out]; omega)
      obtain ⟨⟨kd, fr, ow, nn⟩, hak⟩ : ∃ a, acts[k]? = some a := ⟨_, List.getElem?_eq_getElem (by rw [HN.out]; exact hlt)⟩
      obtain ⟨hkd, hfr, how, -⟩ := HK.out _ (List.mem_of_getElem? hak)
      simp only [ok64'] at hkd hfr how
      have hx : ∀ j, j < 4 → (acts.flatMap Act23.cells)[k * 4 + j]? = ((⟨kd, fr, ow, nn⟩ : Act23).cells)[j]? := fun j hj => by
        rw [flat_get Act23.len acts _ j hj, hak]
        rfl
      have y0 := HC.out.only.cell (hg _ _ (hx 0 (by omega))) (by simp)
      have y1 := HC.out.only.cell (hg _ _ (hx 1 (by omega))) (by simp)
      have y2 := HC.out.only.cell (hg _ _ (hx 2 (by omega))) (by simp)
      rw [Nat.add_zero] at y0
      rw [← Nat.add_assoc] at y1 y2
      have p1 := fun m => Pick_any ow 4 (wr.drewN m) (by omega) (by omega) how.1 how.2
      have p2 := fun m => Pick_any fr N (wr.drewN m) (by omega) (by omega) hfr.1 hfr.2
      have p3 := fun W => Pick_any kd 4 W (by omega) (by omega) hkd.1 hkd.2
      have b1 : 0 ≤ ow % 4 ∧ ow % 4 < 4 := by omega
      have b2 : 0 ≤ fr % N ∧ fr % N < N := ⟨Int.emod_nonneg _ (by omega), Int.emod_lt_of_pos _ (by omega)⟩
      have b3 : 0 ≤ kd % 4 ∧ kd % 4 < 4 := by omega
      generalize ow % 4 = o4 at p1 b1
      obtain ⟨f, hf⟩ := Int.eq_ofNat_of_zero_le b2.1
      rw [hf] at p2 b2
      generalize kd % 4 = k4 at p3 b3
      obtain ⟨oo, hoo⟩ : ∃ oo, 1 + o4 = oo := ⟨_, rfl⟩
      have hwo : IntKind.i64.wrap (1 + o4) = oo := by rw [IntKind.wrap_i64]; omega
      have b4 : 1 ≤ oo ∧ oo ≤ 4 := by omega
      clear hx hg hak hkd hfr how hf hoo b1
      go_wp2_with fail
      go_quiet (first | (with_reducible refine quiet_left (p1 _)) | (with_reducible refine quiet_left (p2 _)))
      rename_i nq
      replace HC := Lib.hid (HC.out.drew nq)
      have y0' : (wr.drewN nq).cell? ⟨g, off + k * 4, none⟩ = _ := y0
      clear y0 y1 y2 p1 p2
      generalize wr.drewN nq = w4 at HC y0' ⊢
      go_upto_block 2 with (refine (p3 _).mono ?_; rintro e w' ⟨rfl, rfl⟩)
      clear p3 y0'
      go_cut [14, 15, 16] from 47 to 204 (fun _ _ _ wx => ∃ (fsX : List Fr) (L5 : List Nat) (hsX : List Int), Hid (CI w wx base b hb N (64 * k + 64) q fsX L5 hsX ((k : Int) + 1)) ∧ Hid (HsAt hsX N fsX))
      case first =>
        have hc4 : k4 = 0 ∨ k4 = 1 ∨ k4 = 2 ∨ k4 = 3 := by omega
        rcases hc4 with rfl | rfl | rfl | rfl
        · have hac := go_acquire HC.out.pl (by omega) oo (by omega)
          go_wp2_with fail
          refine hac.mono ?_
          rintro e w5 ⟨rfl, hg⟩
          obtain ⟨L5, hC5⟩ := HC.out.go hg ((HC.out.cp.mono (H' := (k : Int) + 1) (by omega)).acq (by omega) b4.2)
          by_cases he : acqE fs q oo = 0
          · obtain ⟨-, -, i, l, -, e1, e2, hi, h0⟩ := acqE_ok he
            have hiN : i < N := by rw [← HC.out.cp.len]; exact hi
            have hz := (HC.out.cp.ok i hi).2.2.2.2.1 h0
            have hs0 := HH.out.2 i hiN
            rw [hz] at hs0
            have hcell := hC5.cell hs0
            have hfree := hC5.blk.free i
            have HC5 := Lib.hid (hC5.put i 1)
            have HH5 := Lib.hid (HH.out.put HC.out.cp.len hiN (f := ⟨oo, 1, (frAt fs i).data⟩) (x := 1) rfl)
            rw [← e2] at HH5
            have di : decide ((N : Int) ≤ (i : Int)) = false := decide_eq_false (by omega)
            have di' : decide (N ≤ i) = false := decide_eq_false (by omega)
            rw [e1, he]
            clear hac hg hC5 he e1 e2 hi h0 hz hs0
            go_wp2_with fail
            generalize World.setCell w5 _ _ = W at HC5 ⊢
            generalize hs.set i 1 = hsX at HC5 HH5
            generalize acqS fs q oo = fsX at HC5 HH5
            clear HC HH hcell hfree
            go_meet
            exact ⟨fsX, L5, hsX, HC5, HH5⟩
          · obtain ⟨-, e2⟩ := acq_bad (fs := fs) (quota := q) (o := oo) rfl he
            rw [e2] at hC5
            have HC5 := Lib.hid hC5
            have HH5 := HH
            have d : (acqE fs q oo == 0) = false := by simpa using he
            obtain ⟨ee, hee⟩ : ∃ ee, acqE fs q oo = ee := ⟨_, rfl⟩
            obtain ⟨en, hen⟩ : ∃ en, acqN fs q oo = en := ⟨_, rfl⟩
            rw [hee] at d
            rw [hee, hen]
            clear hac hg hC5 he e2 hee hen
            go_wp2_with fail
            generalize w5 = W at HC5 ⊢
            generalize hs = hsX at HC5 HH5
            generalize fs = fsX at HC5 HH5
            clear HC HH
            go_meet
            exact ⟨fsX, L5, hsX, HC5, HH5⟩
        · have hre := go_retain HC.out.pl HC.out.cp.ok (by omega) (f : Int) oo
          go_wp2_with fail
          refine hre.mono ?_
          rintro e w5 ⟨rfl, hg⟩
          obtain ⟨L5, hC5⟩ := HC.out.go hg (HC.out.cp.ret (f : Int) oo)
          have hfN : f < N := by omega
          obtain ⟨z, hz⟩ : ∃ z, (frAt fs f).handles = z := ⟨_, rfl⟩
          have hs0 := HH.out.2 f hfN
          have hbd := HC.out.cp.ok f (by rw [HC.out.cp.len]; exact hfN)
          rw [hz] at hs0 hbd
          have hcell := hC5.cell hs0
          have hfree := hC5.blk.free f
          have hwz : IntKind.i64.wrap (z + 1) = z + 1 := by rw [IntKind.wrap_i64]; omega
          by_cases he : whyF fs f oo = 0
          · have e2 : retF fs f oo = fs.set f ⟨(frAt fs f).owner, (frAt fs f).handles + 1, (frAt fs f).data⟩ := if_pos he
            have HC5 := Lib.hid (hC5.put f (z + 1))
            have HH5 := Lib.hid (HH.out.put HC.out.cp.len hfN (f := ⟨(frAt fs f).owner, (frAt fs f).handles + 1, (frAt fs f).data⟩) (x := z + 1) (by show _ + 1 = _; rw [hz]))
            rw [← e2] at HH5
            rw [he]
            clear hre hg hC5 he e2 hz hs0 hbd
            go_wp2_with fail
            generalize World.setCell w5 _ _ = W at HC5 ⊢
            generalize hs.set f (z + 1) = hsX at HC5 HH5
            generalize retF fs f oo = fsX at HC5 HH5
            clear HC HH hcell hfree hwz
            go_meet
            exact ⟨fsX, L5, hsX, HC5, HH5⟩
          · have e2 : retF fs f oo = fs := if_neg he
            rw [e2] at hC5
            have HC5 := Lib.hid hC5
            have HH5 := HH
            have d : (whyF fs f oo == 0) = false := by simpa using he
            obtain ⟨ee, hee⟩ : ∃ ee, whyF fs f oo = ee := ⟨_, rfl⟩
            rw [hee] at d
            rw [hee]
            clear hre hg hC5 he e2 hee hz hs0 hbd hcell hfree hwz
            go_wp2_with fail
            generalize w5 = W at HC5 ⊢
            generalize hs = hsX at HC5 HH5
            generalize fs = fsX at HC5 HH5
            clear HC HH
            go_meet
            exact ⟨fsX, L5, hsX, HC5, HH5⟩
        · have hre := go_release HC.out.pl (by omega) HC.out.cp.ok (by omega) (f : Int) oo
          go_wp2_with fail
          refine hre.mono ?_
          rintro e w5 ⟨rfl, hg⟩
          obtain ⟨L5, hC5⟩ := HC.out.go hg ((HC.out.cp.rel (f : Int) oo).mono (H' := (k : Int) + 1) (by omega))
          have hfN : f < N := by omega
          obtain ⟨z, hz⟩ : ∃ z, (frAt fs f).handles = z := ⟨_, rfl⟩
          have hs0 := HH.out.2 f hfN
          have hbd := HC.out.cp.ok f (by rw [HC.out.cp.len]; exact hfN)
          rw [hz] at hs0 hbd
          have hcell := hC5.cell hs0
          have hfree := hC5.blk.free f
          have hwz : IntKind.i64.wrap (z - 1) = z - 1 := by rw [IntKind.wrap_i64]; omega
          by_cases he : whyF fs f oo = 0
          · have HC5 := Lib.hid (hC5.put f (z - 1))
            have HH5 : Hid (HsAt (hs.set f (z - 1)) N (relF fs f oo)) := Lib.hid (by
              unfold relF
              rw [if_pos he]
              simp only [Int.toNat_natCast]
              split
              · rename_i h1
                exact HH.out.put HC.out.cp.len hfN (f := ⟨0, 0, (frAt fs f).data⟩) (x := z - 1) (by show (0 : Int) = z - 1; omega)
              · exact HH.out.put HC.out.cp.len hfN (f := ⟨(frAt fs f).owner, (frAt fs f).handles - 1, (frAt fs f).data⟩) (x := z - 1) (by show _ - 1 = _; rw [hz]))
            rw [he]
            clear hre hg hC5 he hz hs0 hbd
            go_wp2_with fail
            generalize World.setCell w5 _ _ = W at HC5 ⊢
            generalize hs.set f (z - 1) = hsX at HC5 HH5
            generalize relF fs f oo = fsX at HC5 HH5
            clear HC HH hcell hfree hwz
            go_meet
            exact ⟨fsX, L5, hsX, HC5, HH5⟩
          · have e2 : relF fs f oo = fs := if_neg he
            rw [e2] at hC5
            have HC5 := Lib.hid hC5
            have HH5 := HH
            have d : (whyF fs f oo == 0) = false := by simpa using he
            obtain ⟨ee, hee⟩ : ∃ ee, whyF fs f oo = ee := ⟨_, rfl⟩
            rw [hee] at d
            rw [hee]
            clear hre hg hC5 he e2 hee hz hs0 hbd hcell hfree hwz
            go_wp2_with fail
            generalize w5 = W at HC5 ⊢
            generalize hs = hsX at HC5 HH5
            generalize fs = fsX at HC5 HH5
            clear HC HH
            go_meet
            exact ⟨fsX, L5, hsX, HC5, HH5⟩
        · have hre := go_reclaim HC.out.pl (by omega) HC.out.cp.ok (by omega) oo
          go_wp2_with fail
          refine hre.mono ?_
          rintro e w5 ⟨rfl, hg⟩
          obtain ⟨L5, hC5⟩ := HC.out.go hg ((HC.out.cp.rec_ oo).mono (H' := (k : Int) + 1) (by omega))
          have hC5 := Lib.hid hC5
          have hM := Lib.hid (HsMid.start HH.out oo)
          have HP := Lib.hid HC.out.cp
          clear hre hg HC HH
          go_wp2_with fail
          go_loopw [16] (fun i wr => ∃ (j : Nat) (hs' : List Int), j ≤ N ∧ i = .int .i64 (j : Int) ∧ Hid (CI w wr base b hb N (64 * k + 64) q (recS fs oo) L5 hs' ((k : Int) + 1)) ∧ Hid (HsMid hs' N j fs oo)) (fun i _ => N - (RowKit.intOf i).toNat)
          case atStart => exact ⟨0, hs, by omega, rfl, hC5, hM⟩
          case round =>
            clear hC5 hM
            obtain ⟨j, hs', hj, rfl, HC, HM⟩ := hrel
            by_cases hjl : j < N
            · have how := go_owner HC.out.pl (j : Int)
              have hrl : (recS fs oo).length = N := HC.out.cp.len
              obtain ⟨z, hz⟩ : ∃ z, (frAt (recS fs oo) j).owner = z := ⟨_, rfl⟩
              have hoz : ownF (recS fs oo) (j : Int) = z := by
                unfold ownF
                rw [if_pos ⟨by omega, by rw [hrl]; omega⟩, Int.toNat_natCast]
                exact hz
              rw [hoz] at how
              have hfree := HC.out.blk.free j
              obtain ⟨x, hx⟩ : ∃ x, hs'[j]? = some x := ⟨_, List.getElem?_eq_getElem (by rw [HM.out.1]; exact hjl)⟩
              have hcell := HC.out.cell hx
              clear hrl hoz hx
              by_cases h0 : z = 0
              · subst h0
                have HC6 := Lib.hid (HC.out.put j 0)
                have HM6 := Lib.hid (HM.out.zero HP.out hjl hz)
                clear hz
                go_wp2_with fail
                refine how.mono ?_
                rintro e w' ⟨rfl, rfl⟩
                go_wp2_with fail
                go_roundw
                case rel => exact ⟨j + 1, hs'.set j 0, by omega, by go_num, HC6, HM6⟩
                case measure => simp [RowKit.intOf]; omega
              · have d : (z == 0) = false := by simpa using h0
                have HM6 := Lib.hid (HM.out.same HP.out hjl (by rw [hz]; exact h0))
                clear hz
                go_wp2_with fail
                refine how.mono ?_
                rintro e w' ⟨rfl, rfl⟩
                go_wp2_with fail
                go_roundw
                case rel => exact ⟨j + 1, hs', by omega, by go_num, HC, HM6⟩
                case measure => simp [RowKit.intOf]; omega
            · obtain rfl : N = j := by omega
              have HC5 := HC
              have HH5 := Lib.hid HM.out.done
              clear HP HM HC
              go_wp2_with fail
              generalize wr = W at HC5 ⊢
              generalize hs' = hsX at HC5 HH5
              generalize recS fs oo = fsX at HC5 HH5
              go_meet
              exact ⟨fsX, L5, hsX, HC5, HH5⟩
      case rest =>
        obtain ⟨fsX, L5, hsX, HC5, HH5⟩ := hcut
        clear HC HH
        generalize wc = W at HC5 ⊢
        go_wp2_with fail
        go_loopw [17, 19] (fun s o wr => ∃ j : Nat, j ≤ 4 ∧ s = .int .i64 (heldS fsX j) ∧ o = .int .i64 ((j : Int) + 1) ∧ wr = W) (fun s o _ => 5 - (RowKit.intOf o).toNat)
        case atStart => exact ⟨0, by omega, rfl, rfl, rfl⟩
        case round =>
          obtain ⟨j, hj, rfl, rfl, rfl⟩ := hrel
          by_cases hlt : j < 4
          · have hhd := go_held HC5.out.pl ((j : Int) + 1) (by omega)
            have hle : decide ((j : Int) + 1 ≤ 4) = true := decide_eq_true (by omega)
            have dq := HC5.out.cp.quo ((j : Int) + 1)
            have hw := held_wrap HC5.out.cp.len hN1.2 hlt
            have hw' : IntKind.i64.wrap ((j : Int) + 1 + 1) = ((j + 1 : Nat) : Int) + 1 := by rw [IntKind.wrap_i64]; omega
            generalize heldN fsX ((j : Int) + 1) = z at hhd dq hw
            have dz : decide (q < z) = false := decide_eq_false (by omega)
            clear dq
            go_wp2_with (refine hhd.mono ?_; rintro e w' ⟨rfl, rfl⟩)
            go_roundw
            case rel => exact ⟨j + 1, by omega, by first | rfl | go_num, by first | rfl | go_num, by first | rfl | trivial⟩
            case measure => simp [RowKit.intOf]; omega
          · obtain rfl : j = 4 := by omega
            have hsum := HC5.out.cp.sum
            rw [← heldS_four] at hsum
            obtain ⟨hd, hhd⟩ : ∃ z, heldS fsX 4 = z := ⟨_, rfl⟩
            rw [hhd] at hsum ⊢
            have hsum := Lib.hid hsum
            clear hhd hlt
            go_wp2_with fail
            go_loopw [18, 20] (fun s o wr' => ∃ j : Nat, j ≤ N ∧ s = .int .i64 (freeC fsX j : Int) ∧ o = .int .i64 (j : Int) ∧ Hid (CI w wr' base b hb N (64 * k + 64) q fsX L5 hsX ((k : Int) + 1))) (fun _ o _ => N - (RowKit.intOf o).toNat)
            case atStart => exact ⟨0, by omega, rfl, rfl, HC5⟩
            case round =>
              clear HC5
              obtain ⟨j, hj, rfl, rfl, HC5⟩ := hrel
              by_cases hlt : j < N
              · obtain ⟨z, hz⟩ : ∃ z, (frAt fsX j).handles = z := ⟨_, rfl⟩
                obtain ⟨y, hy⟩ : ∃ z, (frAt fsX j).owner = z := ⟨_, rfl⟩
                have hfl := HC5.out.cp.len
                have hz0 := HC5.out.cp.ok j (by rw [hfl]; exact hlt)
                have hfs := freeC_succ fsX (k := j) (by rw [hfl]; exact hlt)
                have hfc := freeC_le fsX j
                have hs0 := HH5.out.2 j hlt
                rw [hz] at hs0 hz0
                rw [hy] at hz0 hfs
                rw [hfl] at hfc
                have hoz : ownF fsX (j : Int) = y := by
                  unfold ownF
                  rw [if_pos ⟨by omega, by rw [hfl]; omega⟩, Int.toNat_natCast]
                  exact hy
                have hhz : hanF fsX (j : Int) = z := by
                  unfold hanF
                  rw [if_pos ⟨by omega, by rw [hfl]; omega⟩, Int.toNat_natCast]
                  exact hz
                have hcell := fun m => (HC5.out.drew m).cell hs0
                have hhan := fun m => go_handles (HC5.out.drew m).pl (j : Int)
                have how := fun m => go_owner (HC5.out.drew m).pl (j : Int)
                rw [hoz] at how
                rw [hhz] at hhan
                have d1 : decide (z < 0) = false := decide_eq_false (by omega)
                clear hs0 hoz hhz hz hy hfl
                by_cases h0 : z = 0
                · obtain rfl : y = 0 := by omega
                  subst h0
                  rw [if_pos rfl] at hfs
                  have hw : IntKind.i64.wrap ((freeC fsX j : Int) + 1) = (freeC fsX (j + 1) : Nat) := by rw [IntKind.wrap_i64, hfs]; omega
                  clear hz0 hfs hfc
                  go_wp2_with fail
                  go_quiet (first | (with_reducible refine quiet_left (hhan _)) | (with_reducible refine quiet_left (how _)))
                  rename_i nq
                  replace HC5 := Lib.hid (HC5.out.drew nq)
                  have hcell' := hcell nq
                  clear hcell hhan how
                  go_wp2_with fail
                  go_roundw
                  case rel => exact ⟨j + 1, by omega, by first | rfl | go_num, by first | rfl | go_num, HC5⟩
                  case measure => simp [RowKit.intOf]; omega
                · have d2 : (z == 0) = false := by simpa using h0
                  have d3 : (y == 0) = false := by simp; omega
                  rw [if_neg (by omega)] at hfs
                  have hfs' : freeC fsX (j + 1) = freeC fsX j := hfs
                  clear hz0 hfs hfc
                  go_wp2_with fail
                  go_quiet (first | (with_reducible refine quiet_left (hhan _)) | (with_reducible refine quiet_left (how _)))
                  rename_i nq
                  replace HC5 := Lib.hid (HC5.out.drew nq)
                  have hcell' := hcell nq
                  clear hcell hhan how
                  go_wp2_with fail
                  go_roundw
                  case rel => exact ⟨j + 1, by omega, by rw [hfs'], by first | rfl | go_num, HC5⟩
                  case measure => simp [RowKit.intOf]; omega
              · obtain rfl : N = j := by omega
                have hfr := go_free HC5.out.pl
                have hfl := HC5.out.cp.len
                have hfa := freeC_all fsX
                rw [hfl] at hfa
                have hsm := hsum.out
                rw [← hfa] at hfr hsm
                have hw : IntKind.i64.wrap ((freeC fsX N : Int) + hd) = (N : Int) := by rw [IntKind.wrap_i64, hsm]; omega
                clear hfl hfa hsm
                go_wp2_with (refine hfr.mono ?_; rintro e w' ⟨rfl, rfl⟩)
                go_roundw
                case rel => exact ⟨k + 1, fsX, L5, hsX, by omega, by go_num, by rw [show 64 * (k + 1) = 64 * k + 64 by omega, show ((k + 1 : Nat) : Int) = (k : Int) + 1 by omega]; exact HC5, HH5⟩
                case measure => simp [RowKit.intOf]; omega
    · obtain rfl : k = n := by omega
      have HF := Lib.hid HC.out.only
      clear HC HH
      go_wp2_with fail
      go_ret
      exact ⟨rfl, HF.out⟩
end
end Go.Proofs.Ytmbnmhcfafgnaaa
