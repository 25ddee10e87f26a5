/-
  Law 26, TableScript: the walk.
-/
import Derived.Test.YtoknnplfdhffnaaLaw26
import Derived.Test.YtoknnplfdhffnaaOpen26
import Derived.Deep.RegionHeld3
namespace Go.Proofs.Ytoknnplfdhffnaa
open Go.RowKit Go.Mine

theorem endS_live (cs : List Int) (x z : Int) : (liveOf (endS cs x z)).length ≤ (liveOf cs).length := by
  unfold endS
  split
  · rename_i he
    by_cases hz : z = 0
    · subst hz; rw [endE_zero] at he; omega
    · by_cases h1 : 1 ≤ x ∧ x ≤ cs.length
      · obtain ⟨k, rfl⟩ : ∃ k : Nat, x = (k : Int) + 1 := ⟨(x - 1).toNat, by omega⟩
        have hk : k < cs.length := by omega
        rw [endE_in hz hk] at he
        split at he
        · rename_i h0
          have := liveOf_end hk h0 hz
          rw [show ((k : Int) + 1 - 1).toNat = k by omega]
          omega
        · omega
      · rw [endE_out hz h1] at he; omega
  · exact Nat.le_refl _
/-- Both tables are as one. -/
structure Both26 (w0 w : World) (b mb n N : Nat) (cs : List Int) (b2 : Nat) (v : Value) : Prop where
  t : TbAt w b mb n N cs
  r : TRf w b2 w0.heap.size v N cs
  on : OnlyIn [] w0 w
  lb : w0.heap.size ≤ b
  lm : w0.heap.size ≤ mb
  l2 : w0.heap.size ≤ b2
section
variable {w0 w w1 w2 : World} {b mb n N b2 : Nat} {cs : List Int} {v : Value}
theorem Both26.only0 (h : Both26 w0 w b mb n N cs b2 v) (ht : OnlyIn [] w w1) : Both26 w0 w1 b mb n N cs b2 v := ⟨h.t.only0 ht, h.r.only0 ht, h.on.trans ht, h.lb, h.lm, h.l2⟩
theorem Both26.ne (h : Both26 w0 w b mb n N cs b2 v) : b2 ≠ b ∧ b2 ≠ mb ∧ v.ownBlock ≠ some b ∧ v.ownBlock ≠ some mb ∧ v.ownBlock ≠ some b2 := by
  refine ⟨h.r.blk.ne_ h.t.blk (by decide), Ne.symm (h.t.map.ne_blk h.r.blk), h.r.sl.ne_blk h.t.blk (by decide), ?_, h.r.sl.ne_blk h.r.blk (by decide)⟩
  intro hv
  obtain ⟨cur, hc⟩ := h.r.sl.type_ _ hv
  exact h.t.map.ne_cells hc rfl
theorem Both26.up (h : Both26 w0 w b mb n N cs b2 v) (hn : n < 100000) : Both26 w0 w b mb (n + 1) N cs b2 v := ⟨⟨h.t.blk, h.t.map.mono (by omega), h.t.pos, h.t.top, h.t.small, by omega⟩, h.r, h.on, h.lb, h.lm, h.l2⟩
end
def at26 (w0 : World) (b mb N b2 n : Nat) (i : Value) (wr : World) : Prop := ∃ (k : Nat) (cs : List Int) (v : Value), k ≤ n ∧ i = .int .i64 (k : Int) ∧ Both26 w0 wr b mb k N cs b2 v ∧ cs.length ≤ k ∧ (liveOf cs).length ≤ N

set_option maxRecDepth 100000 in
theorem tScript_bad (x : Int) (va : Value) (w : World) (hx : x < 1 ∨ 64 < x) : Calls Try.prog 5 #[.int .i64 x, va] w fun e w' => e = .returned (.bool true) ∧ OnlyIn [] w w' := by
  go_enter Try.func5, Try.ntmps5
  go_wp2_with fail
  refine (tNew_bad w x hx).mono ?_
  rintro e w' ⟨rfl, rfl⟩
  go_wp2_with fail
  refine (tRNew_bad w x hx).mono ?_
  rintro e w' ⟨rfl, rfl⟩
  go_wp2_with fail
  refine (awake_any w).mono ?_
  rintro e w1 ⟨rfl, ht1⟩
  go_wp2_with fail
  go_ret
  exact ⟨rfl, ht1⟩
set_option maxRecDepth 100000 in
theorem tScript_long (w : World) (N : Nat) (h1 : 1 ≤ N) (h2 : N ≤ 64) (A : Option Addr) (c n : Nat) (hn : 150 < n) :
    Calls Try.prog 5 #[.int .i64 (N : Int), .slice A n c] w fun e w' => e = .returned (.bool true) ∧ OnlyIn [] w w' := by
  go_enter Try.func5, Try.ntmps5
  go_wp2_with fail
  refine (tNew_ok w h1 h2).mono ?_
  rintro e w1 ⟨b, mb, rfl, ho1, ht1, -, -⟩
  go_wp2_with fail
  refine (tRNew_ok w1 h1 h2).mono ?_
  rintro e w2 ⟨rfl, hf2, ht2⟩
  go_wp2_with fail
  refine (awake_any w2).mono ?_
  rintro e w3 ⟨rfl, ht3⟩
  go_wp2_with fail
  go_ret
  exact ⟨rfl, (ht1.trans ht2).trans ht3⟩

set_option maxHeartbeats 4000000 in
set_option maxRecDepth 100000 in
theorem tScript_ok (w : World) (N : Nat) (h1 : 1 ≤ N) (h2 : N ≤ 64) (A : Option Addr) (c : Nat) (acts : List Act26) (hA : 0 < acts.length → ∃ g off, A = some ⟨g, off, none⟩ ∧ ∀ j u, (acts.flatMap Act26.cells)[j]? = some u → w.cell? ⟨g, off + j, none⟩ = some u)
    (hok : ∀ a ∈ acts, a.ok) (hac : acts.length ≤ 150) :
    Calls Try.prog 5 #[.int .i64 (N : Int), .slice A acts.length c] w fun e w' => e = .returned (.bool true) ∧ OnlyIn [] w w' := by
  have HA := Lib.hid hA
  have HK := Lib.hid hok
  clear hA hok
  go_enter Try.func5, Try.ntmps5
  go_wp2_with fail
  refine (tNew_ok w h1 h2).mono ?_
  rintro e w1 ⟨b, mb, rfl, ho1, ht1, hb, hm⟩
  go_wp2_with fail
  refine (tRNew_ok w1 h1 h2).mono ?_
  rintro e w2 ⟨rfl, hf2, ht2⟩
  have hB : Both26 w w2 b mb 0 N [] w1.heap.size (.slice none 0 0) :=
    ⟨ho1.only0 ht2, hf2.mono ht1.size, ht1.trans ht2, hb, hm, ht1.size⟩
  generalize hb2 : w1.heap.size = b2 at *
  clear ho1 hf2 ht1 ht2 hb2 hb hm
  go_wp2_with fail
  go_loopw [9] (at26 w b mb N b2 acts.length) (fun i _ => acts.length - (RowKit.intOf i).toNat)
  case atStart => exact ⟨0, [], _, by omega, rfl, hB, by simp, by simp [liveOf, liveTo]⟩
  case round =>
    clear hB
    obtain ⟨k, cs, v, hk, rfl, hB, hck, hlv⟩ := hrel
    by_cases hlt : k < acts.length
    · obtain ⟨g, off, rfl, hg⟩ := HA.out (by omega)
      obtain ⟨⟨kk, id, z⟩, hak⟩ : ∃ a, acts[k]? = some a := ⟨_, List.getElem?_eq_getElem hlt⟩
      obtain ⟨-, hid, hz⟩ := HK.out _ (List.mem_of_getElem? hak)
      simp only [ok64] at hid hz
      have hx : ∀ j, j < 3 → (acts.flatMap Act26.cells)[k * 3 + j]? = ((⟨kk, id, z⟩ : Act26).cells)[j]? := fun j hj => by
        rw [flat_get Act26.len acts _ j hj, hak]
        rfl
      have hQ : ∀ W, OnlyIn [] w W → W.cell? ⟨g, off + k * 3, none⟩ = some (.int .i64 kk) ∧ W.cell? ⟨g, off + k * 3 + 1, none⟩ = some (.int .i64 id) ∧ W.cell? ⟨g, off + k * 3 + 2, none⟩ = some (.int .i64 z) := fun W hW =>
        ⟨hW.cell (hg _ _ (hx 0 (by omega))) (by simp), hW.cell (hg _ _ (hx 1 (by omega))) (by simp), hW.cell (hg _ _ (hx 2 (by omega))) (by simp)⟩
      have HQ := Lib.hid hQ
      have hcw := hg _ _ (hx 0 (by omega))
      clear hx hg hak hQ
      obtain ⟨q0, q1, q2⟩ := HQ.out wr hB.on
      have hnn := hB.ne
      have hsz := hB.on.size
      by_cases cp : kk = 0 ∨ kk = 1
      · by_cases hfl : (liveOf cs).length = N
        · have HN := Lib.hid (And.intro hnn (And.intro hid hz))
          clear hnn hz q1 q2
          rcases cp with rfl | rfl
          all_goals
            go_wp2_with fail
            refine (tOpen_full wr hB.t hfl).mono ?_
            rintro e w3 ⟨rfl, ht3⟩
            have hB3 := hB.only0 ht3
            go_wp2_with fail
            refine (tROpen_full w3 hB3.r hB3.on.size (by omega)).mono ?_
            rintro e w4 ⟨rfl, ht4⟩
            have hB4 := hB3.only0 ht4
            obtain ⟨-, q1, -⟩ := HQ.out w4 hB4.on
            clear hB hB3 ht3 ht4 q0
            go_wp2_with fail
            refine (alike_any w4 hB4.t hB4.r hB4.on.size id hid).mono ?_
            rintro e w5 ⟨rfl, ht5⟩
            have hB5 := (hB4.only0 ht5).up (by omega)
            clear hB4 ht5 q1
            go_wp2_with fail
            go_roundw
            case rel => exact ⟨k + 1, cs, _, by omega, by go_num, hB5, by omega, hlv⟩
            case measure => simp [RowKit.intOf]; omega
        · have hroom : (liveOf cs).length < N := by omega
          have hk1 : cs.length < 100000 := by omega
          have hk2 : k < 100000 := by omega
          clear hz q1 q2
          rcases cp with rfl | rfl
          all_goals
            go_wp2_with fail
            refine (tOpen_room wr hB.t hroom hk1 hk2).mono ?_
            rintro e w3 ⟨rfl, hT3, ht3⟩
            have hr3 := hB.r.only ht3 (by simp; omega) (fun g hg => by
              simp only [List.mem_cons, List.not_mem_nil, or_false]
              rintro (rfl | rfl)
              · exact hnn.2.2.1 hg
              · exact hnn.2.2.2.1 hg)
            have hs3 := ht3.size
            generalize hcn : (cs.length : Int) + 1 = x
            go_wp2_with fail
            refine (tROpen_room w3 hr3 (by omega) hroom hk1).mono ?_
            rintro e w4 ⟨rfl, v4, hr4, ht4, hv4⟩
            rw [hcn]
            have hB4 : Both26 w w4 b mb (k + 1) N (cs ++ [0]) b2 v4 := by
              have l1 := hB.lb
              have l2 := hB.lm
              have l3 := hB.l2
              have hin : ∀ {g : Nat}, b2 ≠ g → v.ownBlock ≠ some g → g ∉ b2 :: v.ownBlock.toList := fun h1 h2 hm => by
                simp only [List.mem_cons, Option.mem_toList] at hm
                rcases hm with hm | hm
                · exact h1 hm.symm
                · exact h2 hm
              refine ⟨hT3.only ht4 (hin hnn.1 hnn.2.2.1) (hin hnn.2.1 hnn.2.2.2.1), hr4, (hB.on.then ht3 (by simp; omega)).then ht4 (fun j hj => .inr ?_), l1, l2, l3⟩
              simp only [List.mem_cons, Option.mem_toList] at hj
              rcases hj with hj | hj
              · omega
              · exact (hB.r.sl.own_lt j hj).1
            obtain ⟨-, q1, -⟩ := HQ.out w4 hB4.on
            have hlm := liveOf_more_length cs
            have HL := Lib.hid (And.intro hlm (And.intro hroom hck))
            clear hB hr3 hT3 hr4 ht3 ht4 hv4 q0 hnn hlm hroom hck hcn
            go_wp2_with fail
            refine (alike_any w4 hB4.t hB4.r hB4.on.size id hid).mono ?_
            rintro e w5 ⟨rfl, ht5⟩
            have hB5 := hB4.only0 ht5
            clear hB4 ht5 q1
            go_wp2_with fail
            go_roundw
            case rel => exact ⟨k + 1, cs ++ [0], _, by omega, by go_num, hB5, by have := HL.out.2.2; simp; omega, by have := HL.out.1; have := HL.out.2.1; omega⟩
            case measure => simp [RowKit.intOf]; omega
      · by_cases ce : kk = 2 ∨ kk = 3
        · have hk2 : k < 100000 := by omega
          have hgb : g ∉ [mb] := by
            simp only [List.mem_singleton]
            rintro rfl
            have h9 := World.block_lt_of_cell? w _ (hcw)
            have := hB.lm
            simp only at h9
            omega
          have hgv : g ∉ v.ownBlock.toList := fun hm => by
            have h9 := World.block_lt_of_cell? w _ (hcw)
            have := (hB.r.sl.own_lt g (by simpa using hm)).1
            simp only at h9
            omega
          clear cp
          rcases ce with rfl | rfl
          all_goals
            go_wp2_with fail
            go_region_held3 (fun W => W.cell? ⟨g, off + k * 3 + 1, none⟩ = some (.int .i64 id) ∧ W.cell? ⟨g, off + k * 3 + 2, none⟩ = some (.int .i64 z)) (first | exact ⟨q1, q2⟩ | exact ⟨p1, p2⟩ | exact ⟨o1, o2⟩) ((first | (go_at_call 11; refine (tEnd_any _ hB.t.drew hk2 id hid z).mono ?_; rintro e w3 ⟨rfl, hT3, ht30⟩; have ht3 : OnlyIn [mb] wr w3 := OnlyIn.trans ((OnlyIn.refl _ wr).drew) ht30; have hr3 := hB.r.only ht3 (by simp; exact hnn.2.1) (fun g' hg' => by simp only [List.mem_singleton]; rintro rfl; exact hnn.2.2.2.1 hg'); have p1 := ht3.cell q1 hgb; have p2 := ht3.cell q2 hgb; clear ht30; dsimp only) | (go_at_call 20; refine (tREnd_any _ hr3 id hid z).mono ?_; rintro e w4 ⟨rfl, hr4, ht4⟩; have o1 := ht4.cell p1 hgv; have o2 := ht4.cell p2 hgv; dsimp only)))
            have hB4 : Both26 w w4 b mb (k + 1) N (endS cs id z) b2 v := by
              have l1 := hB.lb
              have l2 := hB.lm
              have l3 := hB.l2
              refine ⟨hT3.only ht4 (fun hm => hnn.2.2.1 (by simpa using hm)) (fun hm => hnn.2.2.2.1 (by simpa using hm)), hr4, (hB.on.then ht3 (by simp; omega)).then ht4 (fun j hj => .inr ?_), l1, l2, l3⟩
              exact (hB.r.sl.own_lt j (by simpa using hj)).1
            have hel := endS_length cs id z
            have hlv2 := endS_live cs id z
            generalize endS cs id z = cs2 at *
            clear hB hr3 hT3 hr4 ht3 ht4 q0 q1 q2 p1 p2 o2 hnn hcw
            go_wp2_with fail
            refine (alike_any w4 hB4.t hB4.r hB4.on.size id hid).mono ?_
            rintro e w5 ⟨rfl, ht5⟩
            have hB5 := hB4.only0 ht5
            clear hB4 ht5 o1
            go_wp2_with fail
            go_roundw
            case rel => exact ⟨k + 1, cs2, _, by omega, by go_num, hB5, by omega, by omega⟩
            case measure => simp [RowKit.intOf]; omega
        · have d0 : (kk == 0) = false := by simp; omega
          have d1 : (kk == 1) = false := by simp; omega
          have d2 : (kk == 2) = false := by simp; omega
          have d3 : (kk == 3) = false := by simp; omega
          have hB4 := hB
          clear cp ce hB hz q2 hnn
          go_wp2_with fail
          refine (alike_any wr hB4.t hB4.r hB4.on.size id hid).mono ?_
          rintro e w5 ⟨rfl, ht5⟩
          have hB5 := (hB4.only0 ht5).up (by omega)
          clear hB4 ht5 q1 q0
          go_wp2_with fail
          go_roundw
          case rel => exact ⟨k + 1, cs, _, by omega, by go_num, hB5, by omega, hlv⟩
          case measure => simp [RowKit.intOf]; omega
    · obtain rfl : k = acts.length := by omega
      go_wp2_with fail
      refine (alike_any _ hB.t hB.r hB.on.size 1 (by decide)).mono ?_
      rintro e w7 ⟨rfl, ht7⟩
      go_wp2_with fail
      refine (awake_any w7).mono ?_
      rintro e w8 ⟨rfl, ht8⟩
      go_wp2_with fail
      go_ret
      exact ⟨by simp, (hB.on.trans ht7).trans ht8⟩

set_option maxRecDepth 100000 in
theorem tScript_walk {w : World} (a0 : Int) (g0 : -9223372036854775808 ≤ a0 ∧ a0 ≤ 9223372036854775807) (x : Value × List Act26) (y : Rd w 3 x.1 x.2.length (x.2.flatMap Act26.cells) ∧ (∀ a ∈ x.2, a.ok) ∧ x.2.length ≤ maxLen) :
    Calls Try.prog 5 #[.int .i64 a0, x.1] w fun e w' => e = .returned (.bool true) ∧ OnlyIn [] w w' := by
  obtain ⟨v, acts⟩ := x
  obtain ⟨⟨-, A, c, hv, -, hA⟩, hok, -⟩ := y
  simp only at hv hA hok ⊢
  subst hv
  by_cases hx : a0 < 1 ∨ 64 < a0
  · exact tScript_bad a0 _ w hx
  · obtain ⟨N, rfl⟩ : ∃ N : Nat, a0 = N := ⟨a0.toNat, by omega⟩
    by_cases hac : acts.length ≤ 150
    · exact tScript_ok w N (by omega) (by omega) A c acts hA hok hac
    · exact tScript_long w N (by omega) (by omega) A c acts.length (by omega)
end Go.Proofs.Ytoknnplfdhffnaa
