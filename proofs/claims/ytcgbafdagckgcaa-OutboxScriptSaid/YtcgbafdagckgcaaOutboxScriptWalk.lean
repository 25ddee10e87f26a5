/-
  Law 24, OutboxScript: the walk.
-/
import Derived.Test.YtcgbafdagckgcaaOutboxg
import Derived.Test.YtcgbafdagckgcaaOpen24
import Derived.Deep.RegionWith
namespace Go.Proofs.Ytcgbafdagckgcaa
open Go.RowKit Go.Mine

theorem notin_own {b b2 : Nat} {v : Value} (h1 : b ≠ b2) (h2 : v.ownBlock ≠ some b) : b ∉ b2 :: v.ownBlock.toList := by
  simp only [List.mem_cons, Option.mem_toList]
  rintro (h | h)
  · exact h1 h
  · exact h2 h
theorem Rf.mono {w : World} {b base base' N came : Nat} {v : Value} {l : List Item} (h : Rf w b base v N came l) (hb : base' ≤ base) : Rf w b base' v N came l := ⟨h.blk, h.sl.mono hb, h.small, h.most, h.len⟩
theorem Rf.drew {w : World} {b base N came : Nat} {v : Value} {l : List Item} (h : Rf w b base v N came l) : Rf w.drew b base v N came l := ⟨h.blk, h.sl, h.small, h.most, h.len⟩

/-- Both outboxes hold the same. -/
structure Both (w0 w : World) (b r b2 : Nat) (v : Value) (N came : Nat) (l : List Item) : Prop where
  ob : Ob w b r N came l
  rf : Rf w b2 w0.heap.size v N came l
  on : OnlyIn [] w0 w
  apart : v.ownBlock ≠ some r
  lb : w0.heap.size ≤ b
  lr : w0.heap.size ≤ r
  lb2 : w0.heap.size ≤ b2

theorem Both.ne2 {w0 w : World} {b r b2 N came : Nat} {v : Value} {l : List Item} (h : Both w0 w b r b2 v N came l) : b2 ≠ b ∧ b2 ≠ r ∧ v.ownBlock ≠ some b ∧ v.ownBlock ≠ some b2 := by
  obtain ⟨rs, _, hr, _⟩ := h.ob.ring
  exact ⟨h.rf.blk.ne_ h.ob.blk (by decide), h.rf.blk.ne_ hr (by decide), h.rf.sl.ne_blk h.ob.blk (by decide), h.rf.sl.ne_blk h.rf.blk (by decide)⟩
theorem Both.only {w0 w w' : World} {b r b2 N came : Nat} {v : Value} {l : List Item} (h : Both w0 w b r b2 v N came l) (ht : OnlyIn [] w w') : Both w0 w' b r b2 v N came l :=
  ⟨h.ob.only ht (by simp) (by simp), h.rf.only ht (by simp) (by simp), h.on.trans ht, h.apart, h.lb, h.lr, h.lb2⟩

def atRound (w0 : World) (b r b2 N n : Nat) (i : Value) (wr : World) : Prop := ∃ (k came : Nat) (l : List Item) (v : Value), k ≤ n ∧ i = .int .i64 (k : Int) ∧ Both w0 wr b r b2 v N came l ∧ came ≤ k

theorem Script_bad (x : Int) (va : Value) (w : World) (hx : x < 1 ∨ 1000 < x) : Calls Try.prog 4 #[.int .i64 x, va] w fun e w' => e = .returned (.bool true) ∧ OnlyIn [] w w' := by
  go_enter Try.func4, Try.ntmps4
  go_wp2_with fail
  refine (New_bad w x hx).mono ?_
  rintro e w' ⟨rfl, rfl⟩
  go_wp2_with fail
  refine (RNew_bad w x hx).mono ?_
  rintro e w' ⟨rfl, rfl⟩
  go_wp2_with fail
  refine (awake_any w).mono ?_
  rintro e w1 ⟨rfl, ht1⟩
  go_wp2_with fail
  go_ret
  exact ⟨rfl, ht1⟩

set_option maxHeartbeats 4000000 in
set_option maxRecDepth 100000 in
theorem Script_ok (w : World) (N : Nat) (h1 : 1 ≤ N) (h2 : N ≤ 1000) (A : Option Addr) (c : Nat) (acts : List Act24) (hA : 0 < acts.length → ∃ g off, A = some ⟨g, off, none⟩ ∧ ∀ j u, (acts.flatMap Act24.cells)[j]? = some u → w.cell? ⟨g, off + j, none⟩ = some u)
    (hac : acts.length ≤ 100) :
    Calls Try.prog 4 #[.int .i64 (N : Int), .slice A acts.length c] w fun e w' => e = .returned (.bool true) ∧ OnlyIn [] w w' := by
  have HA := Lib.hid hA
  clear hA
  go_enter Try.func4, Try.ntmps4
  go_wp2_with fail
  refine (New_ok w N h1 h2).mono ?_
  rintro e w1 ⟨rfl, ho1, ht1⟩
  generalize hb : w.heap.size + 1 = b at *
  generalize hr : w.heap.size = r at ho1
  go_wp2_with fail
  refine (RNew_ok w1 N h1 h2).mono ?_
  rintro e w2 ⟨rfl, hf2, ht2⟩
  have hB : Both w w2 b r w1.heap.size (.slice none 0 0) N 0 [] :=
    ⟨ho1.only ht2 (by simp) (by simp), hf2.mono ht1.size, ht1.trans ht2, by simp [Value.ownBlock], by omega, by omega, ht1.size⟩
  generalize hb2 : w1.heap.size = b2 at *
  clear ho1 hf2 ht1 ht2 hb hr hb2
  go_wp2_with fail
  go_loopw [9] (atRound w b r b2 N acts.length) (fun i _ => acts.length - (intOf i).toNat)
  case atStart => exact ⟨0, 0, [], _, by omega, rfl, hB, by omega⟩
  case round =>
    clear hB
    obtain ⟨k, came, l, v, hk, rfl, hB, hcm⟩ := hrel
    by_cases hlt : k < acts.length
    · obtain ⟨g, off, rfl, hg⟩ := HA.out (by omega)
      obtain ⟨⟨kk, it⟩, hak⟩ : ∃ a, acts[k]? = some a := ⟨_, List.getElem?_eq_getElem hlt⟩
      have hx : ∀ j, j < 5 → (acts.flatMap Act24.cells)[k * 5 + j]? = ((⟨kk, it⟩ : Act24).cells)[j]? := fun j hj => by
        rw [flat_get Act24.len acts _ j hj, hak]
        rfl
      have q0 : wr.cell? ⟨g, off + k * 5, none⟩ = _ := hB.on.cell (hg _ _ (hx 0 (by omega))) (by simp)
      have q1 : wr.cell? ⟨g, off + k * 5 + 1, none⟩ = _ := hB.on.cell (hg _ _ (hx 1 (by omega))) (by simp)
      have q2 : wr.cell? ⟨g, off + k * 5 + 1 + 1, none⟩ = _ := hB.on.cell (hg _ _ (hx 2 (by omega))) (by simp)
      have q3 : wr.cell? ⟨g, off + k * 5 + 1 + 2, none⟩ = _ := hB.on.cell (hg _ _ (hx 3 (by omega))) (by simp)
      have q4 : wr.cell? ⟨g, off + k * 5 + 1 + 3, none⟩ = _ := hB.on.cell (hg _ _ (hx 4 (by omega))) (by simp)
      have hgw : g < w.heap.size := World.block_lt_of_cell? w ⟨g, off + (k * 5 + 0), none⟩ (hg _ _ (hx 0 (by omega)))
      clear hx hg hak
      obtain ⟨n1, n2, n3, n4⟩ := hB.ne2
      have hln := hB.ob.len
      have hbs := hB.on.size
      by_cases c5 : kk = 5
      · subst c5
        go_wp2_with fail
        refine (Clear_any wr b r N came l hB.ob).mono ?_
        rintro e w3 ⟨v3, rfl, hs3, ho3, ht3⟩
        have hf3 := hB.rf.only ht3 (by simpa using n1) (fun g hg => by simp; rintro rfl; exact n3 hg)
        obtain ⟨A3, c3, rfl, hc3⟩ := hs3.val
        go_wp2_with fail
        refine (RClear w3 hf3).mono ?_
        rintro e w4 ⟨rfl, hf4, hs4, ht4⟩
        have ho4 := ho3.only ht4 (by simpa using n1.symm) (by simpa using n2.symm)
        have hs34 := hs3.only ht4 (fun g hg => by
          have := (hs3.own_lt g hg).1
          have hlb2 := hB.rf.blk.lt
          simp; omega)
        go_wp2_with fail
        refine (SameItems_same w4 _ _ l (Rd.of_sl hs34) (Rd.of_sl hs4) (by have := hB.rf.most; omega)).mono ?_
        rintro e w5 ⟨rfl, hw5⟩
        have ht5 : OnlyIn [] w4 w5 := OnlyIn.of_draws hw5
        have hs5 := hs34.only ht5 (by simp)
        clear hw5
        go_wp2_with fail
        refine (OverItems_any w5 _ _ _ _ hs5 (by have := hB.rf.most; omega)).mono ?_
        rintro e w6 ⟨rfl, ht6⟩
        have hown : ∀ g, (Value.slice A3 l.length c3).ownBlock = some g → wr.heap.size ≤ g := fun g hg => (hs3.own_lt g hg).1
        have hlb : b < wr.heap.size := hB.ob.blk.lt
        have hlb2 : b2 < wr.heap.size := hB.rf.blk.lt
        have hlr : r < wr.heap.size := by
          obtain ⟨rs, _, hr, _⟩ := hB.ob.ring
          exact hr.lt
        have hB6 : Both w w6 b r b2 (.slice none 0 0) N came [] := by
          have hS : ∀ x, x < wr.heap.size → x ∉ (Value.slice A3 l.length c3).ownBlock.toList := fun x hx hm => by
            have := hown x (by simpa using hm)
            omega
          refine ⟨(ho4.only ht5 (by simp) (by simp)).only ht6 (hS b hlb) (hS r hlr), (hf4.only ht5 (by simp) (by simp)).only ht6 (hS b2 hlb2) (by simp [Value.ownBlock]), ?_, by simp [Value.ownBlock], hB.lb, hB.lr, hB.lb2⟩
          have l1 := hB.lb
          have l2 := hB.lb2
          refine (((hB.on.then ht3 (by simp; omega)).then ht4 (by simp; omega)).trans ht5).then ht6 (fun j hj => .inr ?_)
          have := hown j (by simpa using hj)
          omega
        clear hB ht3 ht4 ht5 ht6 hs3 hs4 hs34 hs5 hf3 hf4 ho3 ho4 hown
        go_wp2_with fail
        refine (alike_any _ b r N _ _ b2 _ _ hB6.ob hB6.rf).mono ?_
        rintro e w7 ⟨rfl, ht7⟩
        have hB7 := hB6.only ht7
        clear hB6 ht7
        go_wp2_with fail
        go_roundw
        case rel => exact ⟨k + 1, _, _, _, by omega, by go_num, hB7, by omega⟩
        case measure => simp [intOf]; omega
      · by_cases c3 : kk = 3 ∨ kk = 4
        · have d0 : (kk == 0) = false := by simp; omega
          have d1 : (kk == 1) = false := by simp; omega
          have d2 : (kk == 2) = false := by simp; omega
          clear q1 q2 q3 q4
          rcases c3 with rfl | rfl
          all_goals
            cases l with
            | nil =>
              go_wp2_with fail
              refine (Pop_empty wr hB.ob).mono ?_
              rintro e w3 ⟨rfl, ht3⟩
              have hB3 := hB.only ht3
              have z3 := Blk.new w3 30 [.int .i64 0, .int .i64 0, .int .i64 0, .int .i64 0]
              have hB4 := hB3.only ((OnlyIn.refl [] w3).alloc (.cells [.int .i64 0, .int .i64 0, .int .i64 0, .int .i64 0].toArray 30))
              go_wp2_with fail
              refine (RPop_empty _ hB4.rf).mono ?_
              rintro e w4 ⟨rfl, ht4⟩
              have z4 := z3.only ht4 (by simp)
              have hB5 := hB4.only ht4
              have hB6 := hB5.only ((OnlyIn.refl [] w4).alloc (.cells [.int .i64 0, .int .i64 0, .int .i64 0, .int .i64 0].toArray 30))
              have e0 := z4.cell (i := 0) rfl
              have e1 := z4.cell (i := 1) rfl
              have e2 := z4.cell (i := 2) rfl
              have e3 := z4.cell (i := 3) rfl
              have ez := z4.lt
              clear z3 z4 hB hB3 hB4 hB5 ht3 ht4
              go_wp2_with fail
              refine (alike_any _ b r N _ _ b2 _ _ hB6.ob hB6.rf).mono ?_
              rintro e w7 ⟨rfl, ht7⟩
              have hB7 := hB6.only ht7
              clear hB6 ht7
              go_wp2_with fail
              go_roundw
              case rel => exact ⟨k + 1, _, _, _, by omega, by go_num, hB7, by omega⟩
              case measure => simp [intOf]; omega
            | cons it2 l =>
              go_wp2_with fail
              refine (Pop_ok wr hB.ob).mono ?_
              rintro e w3 ⟨rfl, ho3, ht3⟩
              have hf3 := hB.rf.only ht3 (by simpa using n1) (fun g hg => by simp; rintro rfl; exact n3 hg)
              have z3 := Blk.new w3 30 it2.cells
              have hta := (OnlyIn.refl [] w3).alloc (.cells it2.cells.toArray 30)
              have hf4 := hf3.only hta (by simp) (by simp)
              have ho4 := ho3.only hta (by simp) (by simp)
              go_wp2_with fail
              refine (RPop_ok _ hf4).mono ?_
              rintro e w4 ⟨rfl, v4, hf5, ht5, hv4⟩
              have z4 := z3.only ht5 (by simp; exact Ne.symm (Nat.ne_of_lt (Nat.lt_of_lt_of_le hB.rf.blk.lt ht3.size)))
              have ho5 := ho4.only ht5 (by simpa using n1.symm) (by simpa using n2.symm)
              have hB5 : Both w w4 b r b2 v4 N came l := by
                have l1 := hB.lb
                have l2 := hB.lb2
                exact ⟨ho5, hf5, ((hB.on.then ht3 (by simp; omega)).trans hta).then ht5 (by simp; omega), by rw [hv4]; exact hB.apart, hB.lb, hB.lr, hB.lb2⟩
              have hB6 := hB5.only ((OnlyIn.refl [] w4).alloc (.cells it2.cells.toArray 30))
              have e0 := z4.cell (i := 0) rfl
              have e1 := z4.cell (i := 1) rfl
              have e2 := z4.cell (i := 2) rfl
              have e3 := z4.cell (i := 3) rfl
              have ez := z4.lt
              clear z3 z4 hB hB5 ht3 hta ht5 hf3 hf4 hf5 ho3 ho4 ho5 hv4
              go_wp2_with fail
              refine (alike_any _ b r N _ _ b2 _ _ hB6.ob hB6.rf).mono ?_
              rintro e w7 ⟨rfl, ht7⟩
              have hB7 := hB6.only ht7
              clear hB6 ht7
              go_wp2_with fail
              go_roundw
              case rel => exact ⟨k + 1, _, _, _, by omega, by go_num, hB7, by omega⟩
              case measure => simp [intOf]; omega
        · by_cases cp : kk = 0 ∨ kk = 1 ∨ kk = 2
          · rcases cp with rfl | rfl | rfl
            all_goals
              by_cases hfl : l.length = N
              · go_wp2_with fail
                go_region_held3 (fun W => W.cell? ⟨g, off + k * 5 + 1, none⟩ = some (.int .i64 it.f) ∧ W.cell? ⟨g, off + k * 5 + 1 + 1, none⟩ = some (.int .i64 it.g) ∧ W.cell? ⟨g, off + k * 5 + 1 + 2, none⟩ = some (.int .i64 it.t) ∧ W.cell? ⟨g, off + k * 5 + 1 + 3, none⟩ = some (.int .i64 it.y)) (first | exact ⟨q1, q2, q3, q4⟩ | exact ⟨p1, p2, p3, p4⟩ | exact ⟨o1, o2, o3, o4⟩) ((first | (go_at_call 16; refine (Push_full _ hB.ob.drew hfl it).mono ?_; rintro e w3 ⟨rfl, ht3⟩; have hB3 := hB.only (((OnlyIn.refl [] wr).drew).trans ht3); have p1 := ht3.cell q1 (by simp); have p2 := ht3.cell q2 (by simp); have p3 := ht3.cell q3 (by simp); have p4 := ht3.cell q4 (by simp)) | (go_at_call 22; refine (RPush_full _ hB3.rf hfl it).mono ?_; rintro e w4 ⟨rfl, ht4⟩; have hB6 := hB3.only ht4; have o1 := ht4.cell p1 (by simp); have o2 := ht4.cell p2 (by simp); have o3 := ht4.cell p3 (by simp); have o4 := ht4.cell p4 (by simp))))
                clear hB hB3 ht3 ht4 q1 q2 q3 q4 p1 p2 p3 p4 o1 o2 o3 o4
                go_wp2_with fail
                refine (alike_any _ b r N _ _ b2 _ _ hB6.ob hB6.rf).mono ?_
                rintro e w7 ⟨rfl, ht7⟩
                have hB7 := hB6.only ht7
                clear hB6 ht7
                go_wp2_with fail
                go_roundw
                case rel => exact ⟨k + 1, _, _, _, by omega, by go_num, hB7, by omega⟩
                case measure => simp [intOf]; omega
              · have hlr : l.length < N := by omega
                have hcs : came < 1000000000 := by omega
                have l1 := hB.lb
                have l2 := hB.lb2
                have l3 := hB.lr
                have hgb : g ∉ [b, r] := by simp; omega
                have hgv : g ∉ b2 :: v.ownBlock.toList := notin_own (by omega) (fun h => by have := (hB.rf.sl.own_lt g h).1; omega)
                go_wp2_with fail
                go_region_held3 (fun W => W.cell? ⟨g, off + k * 5 + 1, none⟩ = some (.int .i64 it.f) ∧ W.cell? ⟨g, off + k * 5 + 1 + 1, none⟩ = some (.int .i64 it.g) ∧ W.cell? ⟨g, off + k * 5 + 1 + 2, none⟩ = some (.int .i64 it.t) ∧ W.cell? ⟨g, off + k * 5 + 1 + 3, none⟩ = some (.int .i64 it.y)) (first | exact ⟨q1, q2, q3, q4⟩ | exact ⟨p1, p2, p3, p4⟩ | exact ⟨o1, o2, o3, o4⟩) ((first | (go_at_call 16; refine (Push_room _ hB.ob.drew hlr hcs it).mono ?_; rintro e w3 ⟨rfl, ho3, ht3⟩; have ht3' : OnlyIn [b, r] wr w3 := ((OnlyIn.refl _ wr).drew).trans ht3; have hf3 := hB.rf.only ht3' (by simp; omega) (fun g hg => by simp; exact ⟨fun h => n3 (h ▸ hg), fun h => hB.apart (h ▸ hg)⟩); have hz3 : w.heap.size ≤ w3.heap.size := Nat.le_trans hbs ht3'.size; have p1 := ht3'.cell q1 hgb; have p2 := ht3'.cell q2 hgb; have p3 := ht3'.cell q3 hgb; have p4 := ht3'.cell q4 hgb) | (go_at_call 22; refine (RPush_room _ hf3 hlr hcs hz3 it).mono ?_; rintro e w4 ⟨rfl, v4, hf4, ht4, hv4⟩; have o1 := ht4.cell p1 hgv; have o2 := ht4.cell p2 hgv; have o3 := ht4.cell p3 hgv; have o4 := ht4.cell p4 hgv)))
                have hrw3 : r < w3.heap.size := by
                  obtain ⟨rs, _, hr, _⟩ := ho3.ring
                  exact hr.lt
                have ho4 := ho3.only ht4 (notin_own n1.symm n3) (notin_own n2.symm hB.apart)
                have hB6 : Both w w4 b r b2 v4 N (came + 1) (l ++ [it]) := by
                  refine ⟨ho4, hf4, ?_, fun h => ?_, hB.lb, hB.lr, hB.lb2⟩
                  · refine (hB.on.then ht3' (by simp; omega)).then ht4 (fun j hj => .inr ?_)
                    simp only [List.mem_cons, Option.mem_toList] at hj
                    rcases hj with hj | hj
                    · omega
                    · exact (hB.rf.sl.own_lt j hj).1
                  · rcases hv4 r h with h2 | h2
                    · exact hB.apart h2
                    · omega
                clear hB hf3 ho3 hf4 ho4 ht3 ht3' ht4 hv4 q1 q2 q3 q4 p1 p2 p3 p4 o1 o2 o3 o4 hfl hgb hgv n3 n4
                go_wp2_with fail
                refine (alike_any _ b r N _ _ b2 _ _ hB6.ob hB6.rf).mono ?_
                rintro e w7 ⟨rfl, ht7⟩
                have hB7 := hB6.only ht7
                clear hB6 ht7
                go_wp2_with fail
                go_roundw
                case rel => exact ⟨k + 1, _, _, _, by omega, by go_num, hB7, by omega⟩
                case measure => simp [intOf]; omega
          · have d0 : (kk == 0) = false := by simp; omega
            have d1 : (kk == 1) = false := by simp; omega
            have d2 : (kk == 2) = false := by simp; omega
            have d3 : (kk == 3) = false := by simp; omega
            have d4 : (kk == 4) = false := by simp; omega
            have d5 : (kk == 5) = false := by simp; omega
            have hB6 := hB
            clear q1 q2 q3 q4 c5 c3 cp hB
            go_wp2_with fail
            refine (alike_any _ b r N _ _ b2 _ _ hB6.ob hB6.rf).mono ?_
            rintro e w7 ⟨rfl, ht7⟩
            have hB7 := hB6.only ht7
            clear hB6 ht7
            go_wp2_with fail
            go_roundw
            case rel => exact ⟨k + 1, _, _, _, by omega, by go_num, hB7, by omega⟩
            case measure => simp [intOf]; omega
    · obtain rfl : k = acts.length := by omega
      go_wp2_with fail
      refine (alike_any _ b r N _ _ b2 _ _ hB.ob hB.rf).mono ?_
      rintro e w7 ⟨rfl, ht7⟩
      go_wp2_with fail
      refine (awake_any w7).mono ?_
      rintro e w8 ⟨rfl, ht8⟩
      go_wp2_with fail
      go_ret
      exact ⟨by simp, (hB.on.trans ht7).trans ht8⟩

theorem Script_long (w : World) (N : Nat) (h1 : 1 ≤ N) (h2 : N ≤ 1000) (A : Option Addr) (c n : Nat) (hn : 100 < n) :
    Calls Try.prog 4 #[.int .i64 (N : Int), .slice A n c] w fun e w' => e = .returned (.bool true) ∧ OnlyIn [] w w' := by
  go_enter Try.func4, Try.ntmps4
  go_wp2_with fail
  refine (New_ok w N h1 h2).mono ?_
  rintro e w1 ⟨rfl, ho1, ht1⟩
  go_wp2_with fail
  refine (RNew_ok w1 N h1 h2).mono ?_
  rintro e w2 ⟨rfl, hf2, ht2⟩
  go_wp2_with fail
  refine (awake_any w2).mono ?_
  rintro e w3 ⟨rfl, ht3⟩
  go_wp2_with fail
  go_ret
  exact ⟨rfl, (ht1.trans ht2).trans ht3⟩

theorem Script_walk {w : World} (a0 : Int) (g0 : -9223372036854775808 ≤ a0 ∧ a0 ≤ 9223372036854775807) (x : Value × List Act24) (y : Rd w 5 x.1 x.2.length (x.2.flatMap Act24.cells) ∧ (∀ a ∈ x.2, a.ok) ∧ x.2.length ≤ maxLen) :
    Calls Try.prog 4 #[.int .i64 a0, x.1] w fun e w' => e = .returned (.bool true) ∧ OnlyIn [] w w' := by
  obtain ⟨v, acts⟩ := x
  obtain ⟨⟨-, A, c, hv, -, hA⟩, -, -⟩ := y
  simp only at hv hA ⊢
  subst hv
  by_cases hx : a0 < 1 ∨ 1000 < a0
  · exact Script_bad a0 _ w hx
  · obtain ⟨N, rfl⟩ : ∃ N : Nat, a0 = N := ⟨a0.toNat, by omega⟩
    by_cases hac : acts.length ≤ 100
    · exact Script_ok w N (by omega) (by omega) A c acts hA hac
    · exact Script_long w N (by omega) (by omega) A c acts.length (by omega)

end Go.Proofs.Ytcgbafdagckgcaa
