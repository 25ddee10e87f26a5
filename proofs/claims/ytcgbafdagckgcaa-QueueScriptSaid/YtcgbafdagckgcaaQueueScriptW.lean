/-
  Law 02: QueueScript: the walk.
-/
import Derived.Test.YtcgbafdagckgcaaAlike02
import Derived.Test.YtcgbafdagckgcaaActs02
import Derived.Test.YtcgbafdagckgcaaKitKept
import Derived.Deep.RegionHeld3
namespace Go.Mine
open Go.RowKit
theorem Lent.sl {w : World} {base : Nat} {e : TypeId} {v : Value} {bs : List UInt8} (h : Lent w base e v bs) : Sl w base e 1 v bs.length (byteCells bs) := by
  obtain ⟨g, off, cap, rfl, h1, h2⟩ := h
  refine ⟨by simp [byteCells], .inr ?_⟩
  rcases h2 with ⟨h, _⟩ | ⟨g', off', cap', cur, hv, hb, hg, hn, hc, hcs, hx⟩
  · cases h
  · injection hv with hv _ hcc
    injection hv with hv
    injection hv with hv1 hv2
    subst hv1 hv2 hcc
    refine ⟨g, off, cap, cur, rfl, hb, hg, by omega, hc, hcs, fun j hj => ?_⟩
    rw [hx j (by omega), byteCells_append, List.getElem?_append_left (by rw [byteCells_length]; omega)]
end Go.Mine
namespace Go.Proofs.Ytcgbafdagckgcaa
open Go.RowKit Go.Mine

theorem Qu.cast {w : World} {b r N f p p' came came' gone gone' : Nat} {xs xs' : List UInt8} {over : Bool} (h : Qu w b r N f xs p came gone over) (hx : xs = xs') (hp : p = p') (hc : came = came') (hg : gone = gone') : Qu w b r N f xs' p' came' gone' over := by
  subst hx hp hc hg; exact h

/-- What both come to behind a Feed. -/
theorem both_feed {w w2 w3 : World} {b r f bR base : Nat} {v v' : Value} {N : Nat} {all bs : List UInt8} {read : Nat} (hr : r < base) (hbb : b < base) (hbR : b ≠ bR) (hrR : r ≠ bR) (hw : base ≤ w.heap.size)
    (h2 : Qu w2 b r N f (all.drop (read / 8) ++ bs.take (N - (all.length - read / 8))) (read % 8) (all.length + min bs.length (N - (all.length - read / 8))) read false)
    (h3 : Rq w3 bR base v' N (all ++ bs.take (N - (all.length - read / 8))) read false) (hs : Sl w2 base 5 1 v all.length (byteCells all)) (hq : read ≤ 8 * all.length) (t3 : OnlyIn (bR :: v.ownBlock.toList) w2 w3) :
    Both02 w3 b r f bR base v' N (all ++ bs.take (N - (all.length - read / 8))) read false := by
  have hn : ∀ x, x < base → x ≠ bR → x ∉ bR :: v.ownBlock.toList := fun x hx hne hm => by
    simp only [List.mem_cons, Option.mem_toList] at hm
    rcases hm with hm | hm
    · exact hne hm
    · have := (hs.own_lt x hm).1; omega
  refine ⟨(h2.only t3 (hn b hbb hbR) (hn r hr hrR)).cast ?_ rfl ?_ rfl, h3, fun h => ?_⟩
  · rw [List.drop_append_of_le_length (by omega)]
  · simp
    omega
  · have := (h3.sl.own_lt r h).1; omega
theorem both_skip {w w2 w3 : World} {b r f bR base : Nat} {v : Value} {N : Nat} {all : List UInt8} {read n : Nat} {over : Bool} (hbR : b ≠ bR) (hrR : r ≠ bR) (hne : v.ownBlock ≠ some r) (hq : read ≤ 8 * all.length)
    (h2 : Qu w2 b r N ((f + (read % 8 + n) / 8) % N) ((all.drop (read / 8)).drop ((read % 8 + n) / 8)) ((read % 8 + n) % 8) all.length (read + n) over)
    (h3 : Rq w3 bR base v N all (read + n) over) (t3 : OnlyIn [bR] w2 w3) :
    Both02 w3 b r ((f + (read % 8 + n) / 8) % N) bR base v N all (read + n) over := by
  refine ⟨(h2.only t3 (by simpa using hbR) (by simpa using hrR)).cast ?_ (by omega) rfl rfl, h3, hne⟩
  rw [List.drop_drop]
  congr 1
  omega

set_option maxRecDepth 100000 in
set_option maxHeartbeats 8000000 in
theorem QueueScript_walk {w : World} (most : Int) (hm : -9223372036854775808 ≤ most ∧ most ≤ 9223372036854775807) (x : Value × List Act02) (hx : Rd w 3 x.1 x.2.length (x.2.flatMap Act02.cells) ∧ (∀ a ∈ x.2, a.ok w) ∧ x.2.length ≤ maxLen) :
    Calls Try.prog 11 #[.int .i64 most, x.1] w fun e w' => e = .returned (.bool true) ∧ OnlyIn [] w w' := by
  obtain ⟨vl, l⟩ := x
  obtain ⟨hr, hok, hml⟩ := hx
  simp only at hr hok hml ⊢
  have hr' := hr
  obtain ⟨-, A, c, rfl, hc, -⟩ := hr'
  by_cases hbad : most < 1 ∨ 1048576 < most
  · have c1 := fun W => qNew_bad W most hbad
    have c2 := fun W => rNew_bad W most hbad
    clear hr hok hml hbad
    go_enter Try.func11, Try.ntmps11
    go_wp2_with fail
    refine (c1 _).mono ?_
    rintro e w' ⟨rfl, rfl⟩
    go_wp2_with fail
    refine (c2 _).mono ?_
    rintro e w' ⟨rfl, rfl⟩
    go_wp2_with fail
    refine (awake_any02 _).mono ?_
    rintro e w1 ⟨rfl, t1⟩
    go_wp2_with fail
    go_ret
    exact ⟨rfl, t1⟩
  · obtain ⟨N, rfl⟩ := Int.eq_ofNat_of_zero_le (by omega : 0 ≤ most)
    have hN1 : 1 ≤ N := by omega
    have hN2 : N ≤ 1048576 := by omega
    have c1 := fun W => qNew_ok W N hN1 hN2
    have c2 := fun W => rNew_ok W N hN1 hN2
    clear hbad hm
    by_cases hsm : Small02 l
    · have hlong := fun W (hW : OnlyIn [] w W) => Long02_no W (.slice A l.length c) l (hr.cells fun p u hp => hW.cell hp (by simp)) (acts02_form hok) hsm
      have h60 := hsm.1
      have HS := Lib.hid (And.intro hsm.2 (And.intro hok hr))
      clear hsm hok hr hml
      go_enter Try.func11, Try.ntmps11
      go_wp2_with fail
      refine (c1 _).mono ?_
      rintro e w1 ⟨rfl, hq1, t1⟩
      go_wp2_with fail
      refine (c2 _).mono ?_
      rintro e w2 ⟨rfl, hr2, t2⟩
      clear c1 c2
      have o2 := t1.trans t2
      have hq2 := hq1.only t2 (by simp) (by simp)
      have hlt1 := hq1.lt
      have hB0 : Both02 w2 (w.heap.size + 1) w.heap.size 0 w1.heap.size (w1.heap.size + 1) (.slice none 0 0) N [] 0 false := ⟨hq2, hr2, by simp [Value.ownBlock]⟩
      have hbR2 := hr2.blk.lt
      have hg1 : w.heap.size ≤ w.heap.size := Nat.le_refl _
      clear hq1 hq2 hr2 t1 t2
      obtain ⟨b, hb⟩ : ∃ b, w.heap.size + 1 = b := ⟨_, rfl⟩
      obtain ⟨r, hrr⟩ : ∃ r, w.heap.size = r := ⟨_, rfl⟩
      obtain ⟨bR, hbR⟩ : ∃ bR, w1.heap.size = bR := ⟨_, rfl⟩
      rw [hb, hbR] at hB0 ⊢
      rw [hb, hrr, hbR] at hlt1
      rw [hbR] at hbR2
      have hB0 : Both02 w2 b r 0 bR (bR + 1) (.slice none 0 0) N [] 0 false := by rw [← hrr]; exact hB0
      have hgr : ∀ x, x < w.heap.size → x ≠ b ∧ x ≠ r ∧ x ≠ bR := fun x hx => by omega
      have hwb : w.heap.size ≤ r ∧ w.heap.size ≤ b ∧ w.heap.size ≤ bR := by omega
      have hne1 : b ≠ bR := by omega
      have hne2 : r ≠ bR := by omega
      clear hb hbR hg1 hrr
      go_wp2_with fail
      refine (hlong _ o2).mono ?_
      rintro e w' ⟨rfl, rfl⟩
      clear hlong
      go_wp2_with fail
      go_loopw [9] (fun i wr => ∃ (k f : Nat) (v : Value) (all : List UInt8) (read : Nat) (over : Bool), k ≤ l.length ∧ i = .int .i64 (k : Int) ∧ Both02 wr b r f bR (bR + 1) v N all read over ∧ all.length ≤ 100 * k ∧ OnlyIn [] w wr ∧ bR + 1 ≤ wr.heap.size) (fun i _ => l.length - (intOf i).toNat)
      case atStart => exact ⟨0, 0, _, [], 0, false, by omega, rfl, hB0, by simp, o2, by omega⟩
      case round =>
        clear hB0 o2 hbR2 
        obtain ⟨k, f, v, all, read, over, hk, rfl, hB, hall, hto, hsz⟩ := hrel
        by_cases hlt : k < l.length
        · have hrr := HS.out.2.2.cells (w' := wr) fun p u hp => hto.cell hp (by simp)
          obtain ⟨g, off, c', hv, q0, q1, q2⟩ := act02_cells HS.out.2.2 hlt
          injection hv with hv _ hcc
          subst hv hcc
          have hgl : g < w.heap.size := World.block_lt_of_cell? w _ q0
          have p0 := hto.cell q0 (by simp)
          have p1 := hto.cell q1 (by simp)
          have p2 := hto.cell q2 (by simp)
          obtain ⟨hk1, hn1, hrd, hbl⟩ := HS.out.2.1 _ (List.getElem_mem hlt)
          have h100 := HS.out.1 _ (List.getElem_mem hlt)
          obtain ⟨a, ha⟩ : ∃ a, l[k]'hlt = a := ⟨_, rfl⟩
          rw [ha] at p0 p1 p2 hk1 hn1 hrd hbl h100
          obtain ⟨kd, n, va, bs⟩ := a
          simp only at p0 p1 p2 hk1 hn1 hrd hbl h100
          have hrda := fun W (hW : OnlyIn [] w W) => hrd.cells (w' := W) fun p u hp => hW.cell hp (by simp)
          obtain ⟨-, Aa, ca, rfl, hca, -⟩ := hrd
          have hmeas : l.length - (k + 1) < l.length - k := by omega
          have hk61 : k + 1 ≤ l.length := by omega
          have hrq := hB.rq.rd
          have hlXX : (all.drop (read / 8)).length = all.length - read / 8 := List.length_drop
          clear hrr q0 q1 q2 ha hbl
          have hgn : g ≠ b ∧ g ≠ r ∧ g ≠ bR := hgr g hgl
          have fin : ∀ (w6 : World) (f6 : Nat) (v6 : Value) (all6 : List UInt8) (read6 : Nat) (over6 : Bool), Both02 w6 b r f6 bR (bR + 1) v6 N all6 read6 over6 → all6.length ≤ 100 * (k + 1) → OnlyIn [] w w6 → bR + 1 ≤ w6.heap.size →
              Calls Try.prog 55 #[.pointer (some ⟨b, 0, none⟩), .pointer (some ⟨bR, 0, none⟩)] w6 fun e w7 => e = .returned (.bool true) ∧ ∃ (k' f7 : Nat) (v7 : Value) (all7 : List UInt8) (read7 : Nat) (over7 : Bool), k' ≤ l.length ∧ (Value.int .i64 ((k : Int) + 1)) = .int .i64 (k' : Int) ∧ Both02 w7 b r f7 bR (bR + 1) v7 N all7 read7 over7 ∧ all7.length ≤ 100 * k' ∧ OnlyIn [] w w7 ∧ bR + 1 ≤ w7.heap.size := by
            intro w6 f6 v6 all6 read6 over6 hB6 ha6 o6 hz6
            refine (alike02_yes w6 hB6).mono ?_
            rintro e w7 ⟨rfl, t7⟩
            exact ⟨rfl, k + 1, f6, v6, all6, read6, over6, hk61, by congr 1, hB6.only0 t7, ha6, o6.trans t7, Nat.le_trans hz6 t7.size⟩
          have hd0 : kd = 0 ∨ kd = 1 ∨ (kd ≠ 0 ∧ kd ≠ 1) := by omega
          by_cases c01 : kd = 0 ∨ kd = 1
          · rcases over with _ | _
            · have cF := fun u (hu : Rd wr 1 u bs.length (byteCells bs)) => hu
              have hm100 : all.length + bs.length ≤ 100 * (k + 1) := by omega
              have hread : read ≤ 8 * all.length := hrq
              have hqv : v.ownBlock ≠ some r := hB.ne
              have HB := Lib.hid (And.intro hB (And.intro hto hall))
              have cL := LentBytes_any wr (.slice Aa bs.length ca) bs (hrda wr hto) (by omega)
              clear cF hB hall hto
              rcases c01 with rfl | rfl
              all_goals
                go_wp2_with fail
                refine cL.mono ?_
                rintro e w3 ⟨u, rfl, hL, t3⟩
                obtain ⟨hB, hto, hall⟩ := HB.out
                have hB3 := hB.only0 t3
                have o3 := hto.trans t3
                have hw3 : wr.heap.size ≤ w3.heap.size := t3.size
                obtain ⟨gu, hgu, hgu1, hgu2⟩ := hL.own
                have hltq := hB.qu.lt
                have hltR := hB.rq.blk.lt
                have hlv : ∀ g, v.ownBlock = some g → bR + 1 ≤ g ∧ g < wr.heap.size := fun g hg => hB.rq.sl.own_lt g hg
                have hsN := hB3.rq.sl
                have cq := qFeed_ok w3 hB3.qu u bs hL.rd (by rw [hgu]; intro h; injection h with h; omega) (by omega) (by omega)
                rw [hlXX] at cq
                obtain ⟨z, hz⟩ : ∃ z : Int, ((min bs.length (N - (all.length - read / 8)) : Nat) : Int) = z := ⟨_, rfl⟩
                rw [hz] at cq
                have p0 := t3.cell p0 (by simp)
                have p2 := t3.cell p2 (by simp)
                have HB3 := Lib.hid (And.intro hB3 (And.intro o3 hall))
                clear hB hto hall hB3 t3 cL
                go_wp2_with fail
                refine cq.mono ?_
                rintro e w4 ⟨rfl, hq4, t4⟩
                obtain ⟨hB3, o3, hall⟩ := HB3.out
                have hr4 := hB3.rq.only t4 (by simp; omega) (fun g hg => by have := hlv g hg; simp; omega)
                have hL4 := hL.only t4 (fun g hg => by rw [hgu] at hg; injection hg with hg; simp; omega)
                have o4 : OnlyIn [] w w4 := o3.then t4 (by simp; omega)
                have hw4 : w3.heap.size ≤ w4.heap.size := t4.size
                have cr := rFeed_ok w4 hr4 (by omega) (.slice Aa bs.length ca) bs (hrda w4 o4) (by omega) (by omega)
                rw [hz] at cr
                have p0 := t4.cell p0 (by simp; omega)
                have p2 := t4.cell p2 (by simp; omega)
                have hs4 := hsN.only t4 (fun g hg => by have := hlv g hg; simp; omega)
                have hread' : read ≤ 8 * all.length := hread
                have HB4 := Lib.hid (And.intro hq4 (And.intro hs4 (And.intro hL4 (And.intro o4 hall))))
                clear cq hB3 o3 hall hq4 hr4 hL hsN hs4 hL4 o4 t4 HB3
                go_wp2_with fail
                refine cr.mono ?_
                rintro e w5 ⟨rfl, v5, hr5, t5, hv5⟩
                obtain ⟨hq4, hs4, hL4, o4, hall⟩ := HB4.out
                have hB5 := both_feed (by omega) (by omega) hne1 hne2 (by omega) hq4 hr5 hs4 hread t5
                have hL5 := hL4.only t5 (fun g hg => by
                  rw [hgu] at hg; injection hg with hg
                  simp only [List.mem_cons, Option.mem_toList]
                  rintro (h | h)
                  · omega
                  · have := hlv g h; omega)
                have o5 : OnlyIn [] w w5 := o4.then t5 (fun j hj => by
                  simp only [List.mem_cons, Option.mem_toList] at hj
                  rcases hj with hj | hj
                  · exact .inr (by omega)
                  · exact .inr (by have := hlv j hj; omega))
                have hw5 : w4.heap.size ≤ w5.heap.size := t5.size
                have ht5 : ∀ p u, w4.cell? p = some u → p.block = g → w5.cell? p = some u := fun p u hp hpg => t5.cell hp (by
                  rw [hpg]
                  simp only [List.mem_cons, Option.mem_toList]
                  rintro (h | h)
                  · omega
                  · have := hlv g h; omega)
                have p0 := ht5 _ _ p0 rfl
                have p2 := ht5 _ _ p2 rfl
                have ck := KeptBytes_any w5 _ _ _ bs hL5 (hrda w5 o5) (by omega)
                have hl5 : (all ++ bs.take (N - (all.length - read / 8))).length ≤ 100 * (k + 1) := by simp; omega
                have hv5' : ∀ g, v5.ownBlock = some g → g ≠ gu := fun g hg => by
                  rcases hv5 g hg with h | h
                  · have := hlv g h; omega
                  · omega
                have HB5 := Lib.hid (And.intro hB5 (And.intro o5 (And.intro hL5 (And.intro hl5 hv5'))))
                clear cr hq4 hs4 hL4 o4 hall hr5 t5 hv5 HB4 hB5 o5 hL5 hl5 hv5' ht5
                go_wp2_with fail
                refine ck.mono ?_
                rintro e w6 ⟨rfl, t6⟩
                obtain ⟨hB5, o5, hL5, hl5, hv5'⟩ := HB5.out
                have hL6 := hL5.only t6 (by simp)
                have hB6 := hB5.only0 t6
                have o6 := o5.trans t6
                have hw6 : w5.heap.size ≤ w6.heap.size := t6.size
                have p0 := t6.cell p0 (by simp)
                have cO := OverBytes_any w6 _ bs.length bs _ hL6.sl (by omega)
                have HB6 := Lib.hid (And.intro hB6 (And.intro o6 (And.intro hl5 hv5')))
                clear ck hB5 o5 hL5 hL6 t6 hl5 hv5' HB5 hB6 o6 p2
                go_wp2_with fail
                refine cO.mono ?_
                rintro e w7 ⟨rfl, t7⟩
                obtain ⟨hB6, o6, hl5, hv5'⟩ := HB6.out
                have hB7 : Both02 w7 b r f bR (bR + 1) _ N _ read false := ⟨hB6.qu.only t7 (by simp [hgu]; omega) (by simp [hgu]; omega), hB6.rq.only t7 (by simp [hgu]; omega) (fun g hg => by have := hv5' g hg; simp [hgu]; omega), hB6.ne⟩
                have o7 : OnlyIn [] w w7 := o6.then t7 (by simp [hgu]; omega)
                have hw7 : w6.heap.size ≤ w7.heap.size := t7.size
                have ca := fin w7 _ _ _ _ _ hB7 hl5 o7 (by omega)
                clear cO hB6 o6 hl5 hv5' HB6 hB7 o7 t7 fin
                go_wp2_with fail
                refine ca.mono ?_
                rintro e w8 ⟨rfl, hrel8⟩
                clear ca
                go_wp2_with fail
                go_roundw
                case rel => exact hrel8
                case measure => simp [intOf]; exact hmeas
            · have cL := LentBytes_any wr (.slice Aa bs.length ca) bs (hrda wr hto) (by omega)
              have HB := Lib.hid (And.intro hB (And.intro hto hall))
              clear hB hto hall
              rcases c01 with rfl | rfl
              all_goals
                go_wp2_with fail
                refine cL.mono ?_
                rintro e w3 ⟨u, rfl, hL, t3⟩
                obtain ⟨hB, hto, hall⟩ := HB.out
                have hB3 := hB.only0 t3
                have o3 := hto.trans t3
                have hw3 : wr.heap.size ≤ w3.heap.size := t3.size
                obtain ⟨gu, hgu, hgu1, hgu2⟩ := hL.own
                have hltq := hB.qu.lt
                have hltR := hB.rq.blk.lt
                have hlv : ∀ g, v.ownBlock = some g → bR + 1 ≤ g ∧ g < wr.heap.size := fun g hg => hB.rq.sl.own_lt g hg
                have cq := qFeed_over w3 hB3.qu u
                have cr := rFeed_over w3 hB3.rq (.slice Aa bs.length ca)
                have p0 := t3.cell p0 (by simp)
                have p2 := t3.cell p2 (by simp)
                have ck := KeptBytes_any w3 _ _ _ bs hL (hrda w3 o3) (by omega)
                have HB3 := Lib.hid (And.intro hB3 (And.intro o3 (And.intro hall hL)))
                clear hB hto hall hB3 t3 cL hL o3
                go_wp2_with fail
                refine cq.mono ?_
                rintro e w' ⟨rfl, rfl⟩
                clear cq
                go_wp2_with fail
                refine cr.mono ?_
                rintro e w' ⟨rfl, rfl⟩
                clear cr
                go_wp2_with fail
                refine ck.mono ?_
                rintro e w6 ⟨rfl, t6⟩
                obtain ⟨hB5, o5, hall, hL5⟩ := HB3.out
                have hL6 := hL5.only t6 (by simp)
                have hB6 := hB5.only0 t6
                have o6 := o5.trans t6
                have hw6 : w3.heap.size ≤ w6.heap.size := t6.size
                have p0 := t6.cell p0 (by simp)
                have cO := OverBytes_any w6 _ bs.length bs _ hL6.sl (by omega)
                have HB6 := Lib.hid (And.intro hB6 (And.intro o6 hall))
                clear ck hB5 o5 hL5 hL6 t6 HB3 hB6 o6 p2 hall
                go_wp2_with fail
                refine cO.mono ?_
                rintro e w7 ⟨rfl, t7⟩
                obtain ⟨hB6, o6, hall⟩ := HB6.out
                have hB7 : Both02 w7 b r f bR (bR + 1) _ N _ read true := ⟨hB6.qu.only t7 (by simp [hgu]; omega) (by simp [hgu]; omega), hB6.rq.only t7 (by simp [hgu]; omega) (fun g hg => by have := hlv g hg; simp [hgu]; omega), hB6.ne⟩
                have o7 : OnlyIn [] w w7 := o6.then t7 (by simp [hgu]; omega)
                have hw7 : w6.heap.size ≤ w7.heap.size := t7.size
                have ca := fin w7 _ _ _ _ _ hB7 (by omega) o7 (by omega)
                clear cO hB6 o6 HB6 hB7 o7 t7 fin hall
                go_wp2_with fail
                refine ca.mono ?_
                rintro e w8 ⟨rfl, hrel8⟩
                clear ca
                go_wp2_with fail
                go_roundw
                case rel => exact hrel8
                case measure => simp [intOf]; exact hmeas
          · by_cases c234 : kd = 2 ∨ kd = 3 ∨ kd = 4
            · have hgb : g ∉ [b] := by simp; omega
              have hgR : g ∉ [bR] := by simp; omega
              by_cases hbad : n < 0 ∨ 8 * (all.length : Int) - (read : Int) < n
              · have hbq : n < 0 ∨ 8 * ((all.drop (read / 8)).length : Int) - ((read % 8 : Nat) : Int) < n := by rw [hlXX]; omega
                rcases c234 with rfl | rfl | rfl
                all_goals
                  go_wp2_with fail
                  go_region_held3 (fun W => W.cell? ⟨g, off + k * 3 + 1, none⟩ = some (.int .i64 n)) (first | exact p1 | exact p3 | exact o3) ((first | (go_at_call 37; refine (qSkip_bad _ hB.qu.drew n hbq).mono ?_; rintro e w3 ⟨rfl, t3⟩; have hB3 := hB.only0 (((OnlyIn.refl [] wr).drew).trans t3); have p3 := t3.cell p1 (by simp)) | (go_at_call 53; refine (rSkip_bad _ hB3.rq n hbad).mono ?_; rintro e w4 ⟨rfl, t4⟩; have hB4 := hB3.only0 t4; have o3 := t4.cell p3 (by simp))))
                  have o4 : OnlyIn [] w w4 := ((hto.drew).trans t3).trans t4
                  have hw4 : wr.heap.size ≤ w4.heap.size := Nat.le_trans t3.size t4.size
                  have ca := fin w4 _ _ _ _ _ hB4 (by omega) o4 (by omega)
                  clear hB hB3 hB4 t3 t4 o4 p1 p3 o3 hto fin
                  go_wp2_with fail
                  refine ca.mono ?_
                  rintro e w8 ⟨rfl, hrel8⟩
                  clear ca
                  go_wp2_with fail
                  go_roundw
                  case rel => exact hrel8
                  case measure => simp [intOf]; exact hmeas
              · obtain ⟨m, rfl⟩ := Int.eq_ofNat_of_zero_le (by omega : 0 ≤ n)
                have hok1 : read % 8 + m ≤ 8 * (all.drop (read / 8)).length := by rw [hlXX]; omega
                have hok2 : read + m ≤ 8 * all.length := by omega
                have hgo : read ≤ 1000000000 := by omega
                have hne := hB.ne
                have hltR := hB.rq.blk.lt
                rcases c234 with rfl | rfl | rfl
                all_goals
                  go_wp2_with fail
                  go_region_held3 (fun W => W.cell? ⟨g, off + k * 3 + 1, none⟩ = some (.int .i64 (m : Int))) (first | exact p1 | exact p3 | exact o3) ((first | (go_at_call 37; refine (qSkip_ok _ hB.qu.drew m hok1 hgo).mono ?_; rintro e w3 ⟨rfl, hq3, t3⟩; have hr3 := hB.rq.only (((OnlyIn.refl [b] wr).drew).trans t3) (by simp; omega) (fun g hg => by have := (hB.rq.sl.own_lt g hg).1; simp; omega); have p3 := t3.cell p1 hgb) | (go_at_call 53; refine (rSkip_ok _ hr3 m hok2).mono ?_; rintro e w4 ⟨rfl, hr4, t4⟩; have o3 := t4.cell p3 hgR)))
                  have hB4 := both_skip (w := wr) hne1 hne2 hne hrq hq3 hr4 t4
                  have o4 : OnlyIn [] w w4 := ((hto.drew).then t3 (by simp; omega)).then t4 (by simp; omega)
                  have hw4 : wr.heap.size ≤ w4.heap.size := Nat.le_trans t3.size t4.size
                  have ca := fin w4 _ _ _ _ _ hB4 (by omega) o4 (by omega)
                  clear hB hq3 hr3 hr4 hB4 t3 t4 o4 p1 p3 o3 hto fin
                  go_wp2_with fail
                  refine ca.mono ?_
                  rintro e w8 ⟨rfl, hrel8⟩
                  clear ca
                  go_wp2_with fail
                  go_roundw
                  case rel => exact hrel8
                  case measure => simp [intOf]; exact hmeas
            · by_cases c5 : kd = 5
              · subst c5
                rcases over with _ | _
                · have cq := qEnd_ok wr hB.qu
                  have hltR := hB.rq.blk.lt
                  have hne := hB.ne
                  have HB := Lib.hid (And.intro hB (And.intro hto hall))
                  clear hB hto hall
                  go_wp2_with fail
                  refine cq.mono ?_
                  rintro e w3 ⟨rfl, hq3, t3⟩
                  obtain ⟨hB, hto, hall⟩ := HB.out
                  have hr3 := hB.rq.only t3 (by simp; omega) (fun g hg => by have := (hB.rq.sl.own_lt g hg).1; simp; omega)
                  have o3 : OnlyIn [] w w3 := hto.then t3 (by simp; omega)
                  have hw3 : wr.heap.size ≤ w3.heap.size := t3.size
                  have cr := rEnd_ok w3 hr3
                  have HB3 := Lib.hid (And.intro hq3 (And.intro o3 hall))
                  clear cq hB hto hall hq3 hr3 o3 t3
                  go_wp2_with fail
                  refine cr.mono ?_
                  rintro e w4 ⟨rfl, hr4, t4⟩
                  obtain ⟨hq3, o3, hall⟩ := HB3.out
                  have hB4 : Both02 w4 b r f bR (bR + 1) v N all read true := ⟨hq3.only t4 (by simp; omega) (by simp; omega), hr4, hne⟩
                  have o4 : OnlyIn [] w w4 := o3.then t4 (by simp; omega)
                  have hw4 : w3.heap.size ≤ w4.heap.size := t4.size
                  have ca := fin w4 _ _ _ _ _ hB4 (by omega) o4 (by omega)
                  clear cr hq3 o3 hall hB4 hr4 o4 t4 fin
                  go_wp2_with fail
                  refine ca.mono ?_
                  rintro e w8 ⟨rfl, hrel8⟩
                  clear ca
                  go_wp2_with fail
                  go_roundw
                  case rel => exact hrel8
                  case measure => simp [intOf]; exact hmeas
                · have cq := qEnd_over wr hB.qu
                  have cr := rEnd_over wr hB.rq
                  have ca := fin wr _ _ _ _ _ hB (by omega) hto hsz
                  clear hB hto hall fin
                  go_wp2_with fail
                  refine cq.mono ?_
                  rintro e w' ⟨rfl, rfl⟩
                  clear cq
                  go_wp2_with fail
                  refine cr.mono ?_
                  rintro e w' ⟨rfl, rfl⟩
                  clear cr
                  go_wp2_with fail
                  refine ca.mono ?_
                  rintro e w8 ⟨rfl, hrel8⟩
                  clear ca
                  go_wp2_with fail
                  go_roundw
                  case rel => exact hrel8
                  case measure => simp [intOf]; exact hmeas
              · have ca := fin wr _ _ _ _ _ hB (by omega) hto hsz
                have d0 : (kd == 0) = false := by simp; omega
                have d1 : (kd == 1) = false := by simp; omega
                have d2 : (kd == 2) = false := by simp; omega
                have d3 : (kd == 3) = false := by simp; omega
                have d4 : (kd == 4) = false := by simp; omega
                have d5 : (kd == 5) = false := by simp; omega
                clear hB hto hall fin hd0 c01 c234 c5
                go_wp2_with fail
                refine ca.mono ?_
                rintro e w8 ⟨rfl, hrel8⟩
                clear ca
                go_wp2_with fail
                go_roundw
                case rel => exact hrel8
                case measure => simp [intOf]; exact hmeas
        · obtain rfl : k = l.length := by omega
          have hal := alike02_yes wr hB
          clear hB
          go_wp2_with fail
          refine hal.mono ?_
          rintro e w3 ⟨rfl, t3⟩
          go_wp2_with fail
          refine (awake_any02 _).mono ?_
          rintro e w4 ⟨rfl, t4⟩
          go_wp2_with fail
          go_ret
          exact ⟨rfl, (hto.trans t3).trans t4⟩
    · have hlong := fun W (hW : OnlyIn [] w W) => Long02_yes W (.slice A l.length c) l (hr.cells fun p u hp => hW.cell hp (by simp)) hml (acts02_form hok) (fun a ha => (hok a ha).2.2.2) hsm
      clear hsm hok hr hml
      go_enter Try.func11, Try.ntmps11
      go_wp2_with fail
      refine (c1 _).mono ?_
      rintro e w1 ⟨rfl, hq1, t1⟩
      go_wp2_with fail
      refine (c2 _).mono ?_
      rintro e w2 ⟨rfl, hr2, t2⟩
      have o2 := t1.trans t2
      clear c1 c2 hq1 hr2 t1 t2
      go_wp2_with fail
      refine (hlong _ o2).mono ?_
      rintro e w' ⟨rfl, rfl⟩
      clear hlong
      go_wp2_with fail
      refine (awake_any02 _).mono ?_
      rintro e w3 ⟨rfl, t3⟩
      go_wp2_with fail
      go_ret
      exact ⟨rfl, o2.trans t3⟩
end Go.Proofs.Ytcgbafdagckgcaa
