/-
  Law 23: PoolOwn: the walk itself.
-/
import Derived.Test.YtmbnmhcfafgnaaaPoolOwnW
import Derived.Deep.CutRange
namespace Go.Proofs.Ytmbnmhcfafgnaaa
open Go.RowKit Go.Mine

/-- What holds at each round of PoolOwn. -/
structure OI (w0 w : World) (base b N T : Nat) (fs : List Fr) (L : List Nat) (dat : Nat → List UInt8) (o : Int) (k wb : Nat) (ws : List Nat) : Prop where
  io : IsO fs N o k dat
  pl : PlS w base b N T N fs L
  wa : WantAt w wb ws N dat L w0.heap.size
  only : OnlyIn [] w0 w
  bge : w0.heap.size ≤ base
  len : ∀ i, i < N → (dat i).length = 152064
section
variable {w0 w w' : World} {base b N T k k' wb : Nat} {fs fs' : List Fr} {L : List Nat} {dat : Nat → List UInt8} {o o' : Int} {ws : List Nat}
theorem OI.go (h : OI w0 w base b N T fs L dat o k wb ws) {T' : Nat} (hg : PlGo w w' base b N T' N fs' L) (hc : IsO fs' N o' k' dat) : ∃ L', OI w0 w' base b N T' fs' L' dat o' k' wb ws := by
  obtain ⟨L', h1, ht, hl⟩ := hg
  exact ⟨L', hc, h1, h.wa.go ht hl, h.only.then ht (fun k hk => .inr (Nat.le_trans h.bge (h.pl.lo k hk))), h.bge, h.len⟩
theorem OI.still (h : OI w0 w base b N T fs L dat o k wb ws) {L' : List Nat} (h1 : PlS w' base b N T N fs L') (ht : OnlyIn L w w') (hl : ∀ k ∈ L', k ∈ L ∨ w.heap.size ≤ k) : OI w0 w' base b N T fs L' dat o k wb ws :=
  ⟨h.io, h1, h.wa.go ht hl, h.only.then ht (fun k hk => .inr (Nat.le_trans h.bge (h.pl.lo k hk))), h.bge, h.len⟩
theorem OI.drew (h : OI w0 w base b N T fs L dat o k wb ws) (n : Nat) : OI w0 (w.drewN n) base b N T fs L dat o k wb ws :=
  ⟨h.io, h.pl.only (S := []) (by (repeat (first | (with_reducible assumption) | (with_reducible exact OnlyIn.refl _ _) | (with_reducible refine OnlyIn.setCell ?_ (by first | simp | (simp; omega)) _) | (with_reducible refine OnlyIn.drewN ?_ _) | (with_reducible refine OnlyIn.drew ?_) | (with_reducible refine OnlyIn.alloc ?_ _)))) (by simp), h.wa.only (S := []) (by (repeat (first | (with_reducible assumption) | (with_reducible exact OnlyIn.refl _ _) | (with_reducible refine OnlyIn.setCell ?_ (by first | simp | (simp; omega)) _) | (with_reducible refine OnlyIn.drewN ?_ _) | (with_reducible refine OnlyIn.drew ?_) | (with_reducible refine OnlyIn.alloc ?_ _)))) (by simp), h.only.drewN n, h.bge, h.len⟩
theorem OI.drew1 (h : OI w0 w base b N T fs L dat o k wb ws) : OI w0 w.drew base b N T fs L dat o k wb ws :=
  ⟨h.io, h.pl.only (S := []) (OnlyIn.refl _ _).drew (by simp), h.wa.only (S := []) (OnlyIn.refl _ _).drew (by simp), h.only.drew, h.bge, h.len⟩
/-- A byte is written into a frame .. -/
theorem OI.put1 (h : OI w0 w base b N T fs L dat o k wb ws) {f x : Nat} (hm : MemAt w base b N T N fs L f x) (at_ : Nat) (v : UInt8) :
    IsO (fs.set f ⟨(frAt fs f).owner, (frAt fs f).handles, (frAt fs f).data.set at_ v⟩) N o k (putD dat f at_ v) ∧ PlS (w.setCell ⟨x, at_, none⟩ (.int .u8 (v.toNat : Int))) base b N T N (fs.set f ⟨(frAt fs f).owner, (frAt fs f).handles, (frAt fs f).data.set at_ v⟩) L ∧ WantAt (w.setCell ⟨x, at_, none⟩ (.int .u8 (v.toNat : Int))) wb ws N dat L w0.heap.size ∧ OnlyIn [] w0 (w.setCell ⟨x, at_, none⟩ (.int .u8 (v.toNat : Int))) := by
  refine ⟨h.io.put hm.1 at_ v, hm.write h.pl at_ v, h.wa.only (S := [x]) ((OnlyIn.refl _ _).setCell (.inl (by simp)) _) fun k hk hw => ?_, h.only.setCell (.inr (Nat.le_trans h.bge (h.pl.lo _ hm.mem))) _⟩
  simp only [List.mem_singleton] at hk
  subst hk
  exact h.wa.nl _ hw hm.mem
/-- .. and into the law's own row. -/
theorem OI.put2 {f at_ : Nat} {v : UInt8} (hio : IsO fs N o k (putD dat f at_ v)) (hpl : PlS w base b N T N fs L) (hwa : WantAt w wb ws N dat L w0.heap.size) (ho : OnlyIn [] w0 w) (hb : w0.heap.size ≤ base) (hlen : ∀ i, i < N → (dat i).length = 152064) {r : Nat} (hr : ws[f]? = some r) :
    OI w0 (w.setCell ⟨r, at_, none⟩ (.int .u8 (v.toNat : Int))) base b N T fs L (putD dat f at_ v) o k wb ws := by
  have hm := List.mem_of_getElem? hr
  refine ⟨hio, hpl.only (S := [r]) ((OnlyIn.refl _ _).setCell (.inl (by simp)) _) fun j hj => ?_, hwa.put hr at_ v, ho.setCell (.inr (hwa.ge _ (by simp [hm]))) _, hb, fun i hi => ?_⟩
  · simp only [List.mem_singleton] at hj
    subst hj
    exact hwa.nl _ (by simp [hm])
  · unfold putD
    split
    · rw [List.length_set]; exact hlen i hi
    · exact hlen i hi
theorem IsO.look (h : IsO fs N o k dat) {i : Nat} (hi : i < N) : lookE fs (i : Int) 1000 = 0 ∧ lookD fs (i : Int) 1000 = (dat i).take 1000 := by
  have he : lookE fs (i : Int) 1000 = 0 := if_pos ⟨by omega, by rw [h.1]; omega, by omega, by omega⟩
  refine ⟨he, ?_⟩
  unfold lookD
  rw [if_pos he, Int.toNat_natCast, h.data hi]
  rfl
theorem u8_of (z : Int) : IntKind.u8.wrap z = ((UInt8.ofNat (z % 256).toNat).toNat : Int) := by
  rw [IntKind.wrap_u8, UInt8.toNat_ofNat_of_lt' (by show _ < 256; omega)]
  omega

set_option maxRecDepth 100000 in
set_option maxHeartbeats 4000000 in
theorem own_ok (w : World) (a0 : Int) (N : Nat) (hN : (N : Int) = 1 + a0 % 6) (g0 : -9223372036854775808 ≤ a0 ∧ a0 ≤ 9223372036854775807) (A1 A2 : Option Addr) (n1 n2 c1 c2 : Nat) (xs ys : List Int) (e1 : xs.length = n1) (e2 : ys.length = n2)
    (h1 : 0 < n1 → ∃ g off, A1 = some ⟨g, off, none⟩ ∧ ∀ j u, (intCells xs)[j]? = some u → w.cell? ⟨g, off + j, none⟩ = some u)
    (h2 : 0 < n2 → ∃ g off, A2 = some ⟨g, off, none⟩ ∧ ∀ j u, (intCells ys)[j]? = some u → w.cell? ⟨g, off + j, none⟩ = some u)
    (hx : ∀ z ∈ xs, -9223372036854775808 ≤ z ∧ z ≤ 9223372036854775807) (hy : ∀ z ∈ ys, -9223372036854775808 ≤ z ∧ z ≤ 9223372036854775807) (hac : n1 ≤ 20) :
    Calls Try.prog 12 #[.int .i64 a0, .slice A1 n1 c1, .slice A2 n2 c2] w fun e w' => e = .returned (.bool true) ∧ OnlyIn [] w w' := by
  have H1 := Lib.hid h1
  have H2 := Lib.hid h2
  have HX := Lib.hid hx
  have HY := Lib.hid hy
  have E1 := Lib.hid e1
  have E2 := Lib.hid e2
  have hN1 : 1 ≤ N ∧ N ≤ 6 := by omega
  have hw1 : IntKind.i64.wrap (1 + a0 % 6) = (N : Int) := by rw [IntKind.wrap_i64]; omega
  have hp1 := fun W => Pick_any a0 6 W (by omega) (by omega) g0.1 g0.2
  have hl1 : decide (20 < (n1 : Int)) = false := decide_eq_false (by omega)
  have hl2 : decide (20 < n1) = false := decide_eq_false (by omega)
  clear h1 h2 hx hy e1 e2
  generalize a0 % 6 = x1 at hp1 hw1 hN
  clear hN
  go_enter Try.func12, Try.ntmps12
  go_wp2_with fail
  refine (known23 w).mono ?_
  rintro e w1 ⟨rfl, o1⟩
  go_wp2_with fail
  refine (hp1 _).mono ?_
  rintro e w' ⟨rfl, rfl⟩
  have hnw := pNew_ok w1 N N (by omega)
  clear hp1
  go_wp2_with fail
  refine hnw.mono ?_
  rintro e w2 ⟨b, B, iv, rfl, hP, t2⟩
  clear hnw
  have hmk := mk_rows N (by omega) w2
  have hOI : OI w (w2.alloc (.cells (List.replicate N (.slice none 0 0)).toArray 54)) w1.heap.size b N 0 (emptyFs N) (ownL b B iv) (fun _ => List.replicate 152064 0) 1 0 w2.heap.size [] :=
    ⟨IsO.empty N 1, hP.pls.only (S := []) (by (repeat (first | (with_reducible assumption) | (with_reducible exact OnlyIn.refl _ _) | (with_reducible refine OnlyIn.setCell ?_ (by first | simp | (simp; omega)) _) | (with_reducible refine OnlyIn.drewN ?_ _) | (with_reducible refine OnlyIn.drew ?_) | (with_reducible refine OnlyIn.alloc ?_ _)))) (by simp), ⟨Blk.new w2 54 _, fun i x hx => (by cases hx), List.nodup_nil, fun x hx hm => by simp only [List.mem_singleton] at hx; subst hx; have := hP.pls.lt _ hm; omega, fun x hx => by simp only [List.mem_singleton] at hx; subst hx; exact Nat.le_trans o1.size t2.size⟩, (o1.trans t2).alloc _, o1.size, fun i _ => List.length_replicate⟩
  have hOI := Lib.hid hOI
  obtain ⟨wb, hwb⟩ : ∃ k, w2.heap.size = k := ⟨_, rfl⟩
  obtain ⟨base, hbase⟩ : ∃ k, w1.heap.size = k := ⟨_, rfl⟩
  rw [hwb, hbase] at hOI
  rw [hwb] at hmk
  clear hP t2 o1
  go_wp2_with fail
  rw [List.toArray_replicate] at hOI
  generalize World.alloc w2 _ = w3 at hOI ⊢
  clear hmk hwb hbase
  obtain ⟨D0, hD0⟩ : ∃ D0 : Nat → List UInt8, (fun _ => List.replicate 152064 0) = D0 := ⟨_, rfl⟩
  rw [hD0] at hOI
  have hD1 : ∀ i, (byteCells ((D0 i).take 1000)) = byteCells (List.replicate 1000 0) := fun i => by rw [← hD0, List.take_replicate]; rfl
  have HD := Lib.hid hD1
  clear hD0 hD1
  go_loopw [11] (fun i wr => ∃ (k : Nat) (fs : List Fr) (L : List Nat) (ws : List Nat), k ≤ N ∧ i = .int .i64 (k : Int) ∧ ws.length = k ∧ Hid (OI w wr base b N (64 * k) fs L D0 1 k wb ws)) (fun i _ => N - (RowKit.intOf i).toNat)
  case atStart => exact ⟨0, emptyFs N, _, [], by omega, rfl, rfl, hOI⟩
  case round =>
    clear hOI
    obtain ⟨k, fs, L, ws, hk, rfl, hwl, HO⟩ := hrel
    by_cases hlt : k < N
    · obtain ⟨q1, q2, q3⟩ := HO.out.io.acq (by omega) hlt
      have hac := acquires_go HO.out.pl (by omega) 1 (k : Int) 0 (by omega) (by rw [q2]) q1 rfl
      have HI := Lib.hid q3
      have HL := Lib.hid hwl
      clear q1 q2 q3 hwl
      go_wp2_with fail
      refine hac.mono ?_
      rintro e w5 ⟨rfl, hg⟩
      obtain ⟨L5, hO5⟩ := HO.out.go hg HI.out
      clear hac hg HI HO
      have hmk : (Instr.makeSlice 54 (.int .i64 1000) (.int .i64 1000)).run Try.prog w5 = .ok (.slice (some ⟨w5.heap.size, 0, none⟩) 1000 1000) (w5.alloc (.cells (byteCells (List.replicate 1000 0)).toArray 5)) := mk_u8 1000 (by omega) w5
      have hb := hO5.wa.blk.alloc (.cells (byteCells (List.replicate 1000 0)).toArray 5)
      have hfree := hb.free k
      have hcell := hO5.wa.next (by rw [HL.out]; exact hlt)
      rw [HL.out] at hcell
      have hlw := hO5.wa.blk.lt
      have hwm := hO5.wa.more (by rw [HL.out]; exact hlt) w5.heap.size (Nat.le_refl _) hO5.only.size hO5.pl.lt ((OnlyIn.refl _ _).alloc (.cells (byteCells (List.replicate 1000 0)).toArray 5)) (by rw [HD.out]; exact Blk.new _ _ _)
      rw [HL.out] at hwm
      have hO6 : OI w ((w5.alloc (.cells (byteCells (List.replicate 1000 0)).toArray 5)).setCell ⟨wb, k, none⟩ (rowV w5.heap.size)) base b N (64 * k + 64) _ L5 D0 1 (k + 1) wb (ws ++ [w5.heap.size]) :=
        ⟨hO5.io, hO5.pl.only (S := [wb]) (((OnlyIn.refl _ _).alloc _).setCell (.inl (by simp)) _) (fun j hj => by simp only [List.mem_singleton] at hj; subst hj; exact hO5.wa.nl _ (by simp)), hwm, (hO5.only.alloc _).setCell (.inr (hO5.wa.ge _ (by simp))) _, hO5.bge, hO5.len⟩
      rw [World.setCell_alloc_past _ _ _ _ hlw] at hO6
      have HO6 := Lib.hid hO6
      clear hO6 hwm hb hO5
      generalize (byteCells (List.replicate 1000 0)).toArray = Z at hmk hfree HO6
      go_wp2_with fail
      go_roundw
      case rel => exact ⟨k + 1, _, L5, ws ++ [w5.heap.size], by omega, by go_num, by simp [HL.out], HO6⟩
      case measure => simp [RowKit.intOf]; omega
    · obtain rfl : N = k := by omega
      obtain ⟨T, hT⟩ : ∃ T, 64 * N = T := ⟨_, rfl⟩
      rw [hT] at HO
      have hT3 : T ≤ 384 := by omega
      have HL := Lib.hid hwl
      clear hT hwl hlt hk
      go_wp2_with fail
      go_loopw [12] (fun i wr => ∃ (k : Nat) (fs : List Fr) (L : List Nat) (dat : Nat → List UInt8), k ≤ n1 ∧ i = .int .i64 (k : Int) ∧ Hid (OI w wr base b N T fs L dat 1 N wb ws)) (fun i _ => n1 - (RowKit.intOf i).toNat)
      case atStart => exact ⟨0, fs, L, D0, by omega, rfl, HO⟩
      case round =>
        clear HO
        obtain ⟨k, fs, L, dat, hk, rfl, HO⟩ := hrel
        by_cases hlt : k < n1 ∧ k < n2
        · obtain ⟨hlt, hlt2⟩ := hlt
          · obtain ⟨g1, off1, rfl, hg1⟩ := H1.out (by omega)
            obtain ⟨g2, off2, rfl, hg2⟩ := H2.out (by omega)
            obtain ⟨x, hxk⟩ : ∃ x, xs[k]? = some x := ⟨_, List.getElem?_eq_getElem (by rw [E1.out]; exact hlt)⟩
            obtain ⟨y, hyk⟩ : ∃ y, ys[k]? = some y := ⟨_, List.getElem?_eq_getElem (by rw [E2.out]; exact hlt2)⟩
            have bx := HX.out _ (List.mem_of_getElem? hxk)
            have hby := HY.out _ (List.mem_of_getElem? hyk)
            have hcy : ∀ W, OnlyIn [] w W → W.cell? ⟨g2, off2 + k, none⟩ = some (.int .i64 y) := fun W h => h.cell (hg2 k (.int .i64 y) (by simp [intCells, hyk])) (by simp)
            have cx : wr.cell? ⟨g1, off1 + k, none⟩ = some (.int .i64 x) := HO.out.only.cell (hg1 k (.int .i64 x) (by simp [intCells, hxk])) (by simp)
            have cy := hcy _ HO.out.only
            have HCY := Lib.hid hcy
            have p1 := fun m => Pick_any x N (wr.drewN m) (by omega) (by omega) bx.1 bx.2
            have p2 := fun m => Pick_any y 1000 (wr.drewN m) (by omega) (by omega) hby.1 hby.2
            obtain ⟨f, hf⟩ := Int.eq_ofNat_of_zero_le (Int.emod_nonneg x (show (N : Int) ≠ 0 by omega))
            have hfN : f < N := by have := Int.emod_lt_of_pos x (show (0 : Int) < N by omega); omega
            obtain ⟨at_, hat⟩ := Int.eq_ofNat_of_zero_le (Int.emod_nonneg y (show (1000 : Int) ≠ 0 by omega))
            have hatN : at_ < 1000 := by omega
            obtain ⟨z1, s1⟩ : ∃ z, IntKind.i64.wrap (y + (k : Int)) = z := ⟨_, rfl⟩
            obtain ⟨z2, s2⟩ : ∃ z, IntKind.i64.wrap (z1 + 1) = z := ⟨_, rfl⟩
            have s3 := u8_of z2
            generalize UInt8.ofNat (z2 % 256).toNat = v at s3
            rw [hf] at p1
            rw [hat] at p2
            clear hxk hyk bx hby hcy hf hat hg1 hg2
            go_wp2_with fail
            go_quiet (first | (with_reducible refine quiet_left (p1 _)) | (with_reducible refine quiet_left (p2 _)))
            rename_i nq
            replace HO := Lib.hid (HO.out.drew nq)
            clear p1 p2 cx cy
            generalize wr.drewN nq = w4 at HO ⊢
            have hme := go_memory HO.out.pl (f : Int) 1
            rw [HO.out.io.mine (by decide) hfN hfN] at hme
            go_wp2_with fail
            refine hme.mono ?_
            rintro e w5 ⟨u, rfl, L5, hP5, ht5, hl5, hv⟩
            obtain ⟨-, x5, hM, rfl⟩ := hv.resolve_left (fun h => h.1 rfl)
            rw [Int.toNat_natCast] at hM
            have hO5 := HO.out.still hP5 ht5 hl5
            have hmn := go_memory_no hP5 (f : Int) 2 (hO5.io.other (by decide) (by decide) hfN hfN) (by decide)
            obtain ⟨hMb, hMl⟩ := hM.blk
            have cX : ∃ u, w5.cell? ⟨x5, at_, none⟩ = some u := ⟨_, hMb.cell (List.getElem?_eq_getElem (by rw [byteCells_length, hMl]; omega))⟩
            have fX := hMb.free at_
            have cy := HCY.out _ hO5.only
            obtain ⟨u0, cX⟩ := cX
            have hpt := hO5.put1 hM at_ v
            have hwl5 := hO5.bge
            have hln5 := hO5.len
            have HP := Lib.hid (And.intro hpt (And.intro hwl5 hln5))
            clear hme hP5 ht5 hl5 hv hO5 HO hM hMb hMl hpt hwl5 hln5
            have hat2 : ((at_ : Int) < 152064) := by omega
            go_wp2_with fail
            refine hmn.mono ?_
            rintro e w' ⟨rfl, rfl⟩
            clear hmn
            go_upto_region 24 with fail
            clear cX fX cy
            obtain ⟨⟨i1, i2, i3, i4⟩, i5, i6⟩ := HP.out
            generalize World.setCell w5 _ _ = w6 at i2 i3 i4 ⊢
            generalize fs.set f _ = fsX at i1 i2
            obtain ⟨r, hr⟩ : ∃ r, ws[f]? = some r := ⟨_, List.getElem?_eq_getElem (by rw [HL.out]; exact hfN)⟩
            have c1 := i3.cell hr
            have hrb := i3.row f r hr
            have cX : ∃ u, w6.cell? ⟨r, at_, none⟩ = some u := ⟨_, hrb.cell (List.getElem?_eq_getElem (by rw [byteCells_length, List.length_take, i6 f hfN]; omega))⟩
            have fX := hrb.free at_
            have cy := HCY.out _ i4
            obtain ⟨u1, cX⟩ := cX
            have HQ := Lib.hid (OI.put2 i1 i2 i3 i4 i5 i6 hr)
            unfold rowV at c1
            have hat3 : ((at_ : Int) < 1000) := by omega
            clear HP i1 i2 i3 i4 i5 i6 hr hrb
            (refine Go.Mine.wp_region_tail 14 (by kernel_rfl) (by kernel_rfl) ?_; simp only [List.take_succ_cons, List.take_zero, List.drop_succ_cons, List.drop_zero]; (repeat (refine Go.wpStill_step (fun K hK => ?_); go_simp; first | (refine hK _ ?_; clear hK K) | (apply Exists.intro; refine ⟨?_, hK _ ?_⟩; (fail); clear hK K))); refine Go.wpStill_nil ?_)
            go_wp2_with fail
            go_roundw
            case rel => exact ⟨k + 1, fsX, L5, putD dat f at_ v, by omega, by go_num, Lib.hid HQ.out.drew1⟩
            case measure => simp [RowKit.intOf]; omega
        · have hex : ¬ k < n1 ∨ (k < n1 ∧ ¬ k < n2) := by omega
          clear hlt
          rcases hex with hex | ⟨hex, hex2⟩ <;> (
            have hrc := reclaims_any HO.out.pl (by omega) (HO.out.io.ok (by omega)) (by omega) 1 (N : Int) (HO.out.io.held (by omega))
            go_wp2_with fail
            refine hrc.mono ?_
            rintro e w7 ⟨rfl, hg⟩
            obtain ⟨L7, hO7⟩ := HO.out.go hg (HO.out.io.rec_ (by omega) 2)
            have HO7 := Lib.hid hO7
            clear hrc hg hO7 HO hex
            go_wp2_with fail
            go_loopw [19] (fun i wr => ∃ (j : Nat) (fs : List Fr) (L : List Nat), j ≤ N ∧ i = .int .i64 (j : Int) ∧ Hid (OI w wr base b N (T + 64 + 64 * j) fs L dat 2 j wb ws)) (fun i _ => N - (RowKit.intOf i).toNat)
            case atStart => exact ⟨0, _, L7, by omega, rfl, HO7⟩
            case round =>
              clear HO7
              obtain ⟨j, fs', L', hj, rfl, HO⟩ := hrel
              by_cases hlt : j < N
              · have hmn := go_memory_no HO.out.pl (j : Int) 1 (HO.out.io.free 1 hlt (Nat.le_refl _)) (by decide)
                have hlk := go_look HO.out.pl (j : Int) 1000
                obtain ⟨l1, l2⟩ := HO.out.io.look hlt
                rw [l1, l2] at hlk
                obtain ⟨r, hr⟩ : ∃ r, ws[j]? = some r := ⟨_, List.getElem?_eq_getElem (by rw [HL.out]; exact hlt)⟩
                have HR := Lib.hid hr
                clear l1 l2 hr
                go_wp2_with fail
                refine hmn.mono ?_
                rintro e w' ⟨rfl, rfl⟩
                clear hmn
                go_wp2_with fail
                refine hlk.mono ?_
                rintro e w8 ⟨v, rfl, hs, L8, hP8, ht8, hl8, hv8⟩
                have hO8 := HO.out.still hP8 ht8 hl8
                have c1 := hO8.wa.cell HR.out
                have hsb := SameBytes_any w8 v (rowV r) _ _ (Rd.of_sl hs) (hO8.wa.rd HR.out (by rw [hO8.len j hlt]; omega))
                rw [decide_eq_true rfl] at hsb
                unfold rowV at hsb c1
                obtain ⟨q1, q2, q3⟩ := hO8.io.acq (by omega) hlt
                have hac := acquires_go hO8.pl (by omega) 2 (j : Int) 0 (by omega) (by rw [q2]) q1 rfl
                have HO8 := Lib.hid hO8
                have HI := Lib.hid q3
                clear hlk HO hs hP8 ht8 hl8 hv8 hO8 q1 q2 q3
                go_wp2_with fail
                refine hsb.mono ?_
                rintro e w' ⟨rfl, rfl⟩
                clear hsb
                go_wp2_with fail
                refine hac.mono ?_
                rintro e w9 ⟨rfl, hg⟩
                obtain ⟨L9, hO9⟩ := HO8.out.go hg HI.out
                have hme := go_memory hO9.pl (j : Int) 2
                rw [hO9.io.mine (by decide) hlt (Nat.lt_succ_self _)] at hme
                have HO9 := Lib.hid hO9
                clear hac hg HO8 HI hO9 c1
                go_wp2_with fail
                refine hme.mono ?_
                rintro e w10 ⟨u, rfl, L10, hP10, ht10, hl10, hv⟩
                obtain ⟨-, x, hM, rfl⟩ := hv.resolve_left (fun h => h.1 rfl)
                rw [Int.toNat_natCast] at hM
                have hO10 := HO9.out.still hP10 ht10 hl10
                have c1 := hO10.wa.cell HR.out
                have hrd := hM.rd 1000 (by omega)
                rw [hO10.io.data hlt] at hrd
                have hwr := hO10.wa.rd HR.out (by rw [hO10.len j hlt]; omega)
                have hsb := fun m => SameBytes_any (w10.drewN m) (.slice (some ⟨x, 0, none⟩) 1000 152064) (rowV r) _ _ (hrd.drewN m) (hwr.drewN m)
                have hsb := fun m => (hsb m).mono (R' := fun e w' => e = .returned (.bool true) ∧ w10.drewN m = w') (fun e w' h => by rw [decide_eq_true rfl] at h; exact h)
                unfold rowV at hsb c1
                have HO10 := Lib.hid hO10
                clear hme HO9 hP10 ht10 hl10 hv hM hO10 hrd hwr
                go_wp2_with fail
                go_quiet (refine quiet_left (hsb _))
                rename_i nq
                replace HO10 := Lib.hid (HO10.out.drew nq)
                clear hsb c1
                go_wp2_with fail
                go_roundw
                case rel => exact ⟨j + 1, _, L10, by omega, by go_num, HO10⟩
                case measure => simp [RowKit.intOf]; omega
              · obtain rfl : N = j := by omega
                have HF := Lib.hid HO.out.only
                clear HO
                go_wp2_with fail
                go_ret
                exact ⟨rfl, HF.out⟩)
end
end Go.Proofs.Ytmbnmhcfafgnaaa
