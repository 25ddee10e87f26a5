/-
  Law 26, TableOnce: the walk.
-/
import Derived.Test.YtoknnplfdhffnaaTabNone26
import Derived.Test.YtoknnplfdhffnaaOpen26
import Derived.Test.YtoknnplfdhffnaaKit
namespace Go.Proofs.Ytoknnplfdhffnaa
open Go.RowKit Go.Mine

/-- A table, and beside it a list of its causes. -/
structure Once26 (w0 w : World) (b mb n N : Nat) (cs : List Int) (v : Value) : Prop where
  t : TbAt w b mb n N cs
  r : Sl w w0.heap.size 26 1 v cs.length (intCells cs)
  on : OnlyIn [] w0 w
  lb : w0.heap.size ≤ b
  lm : w0.heap.size ≤ mb
section
variable {w0 w w1 w2 : World} {b mb n N b2 : Nat} {cs : List Int} {v : Value}
theorem Once26.only0 (h : Once26 w0 w b mb n N cs v) (ht : OnlyIn [] w w1) : Once26 w0 w1 b mb n N cs v := ⟨h.t.only0 ht, h.r.only ht (by simp), h.on.trans ht, h.lb, h.lm⟩
theorem Once26.ne (h : Once26 w0 w b mb n N cs v) : v.ownBlock ≠ some b ∧ v.ownBlock ≠ some mb := by
  refine ⟨h.r.ne_blk h.t.blk (by decide), ?_⟩
  intro hv
  obtain ⟨cur, hc⟩ := h.r.type_ _ hv
  exact h.t.map.ne_cells hc rfl
theorem Once26.ended (h : Once26 w0 w b mb n N cs v) {n' : Nat} (ht : OnlyIn [mb] w w1) (hT : TbAt w1 b mb n' N cs) : Once26 w0 w1 b mb n' N cs v := by
  have l2 := h.lm
  exact ⟨hT, h.r.only ht (fun g hg => by simp only [List.mem_singleton]; rintro rfl; exact h.ne.2 hg), h.on.then ht (by simp; omega), h.lb, h.lm⟩
theorem Once26.cut {g off c y : Nat} {z : Int} {n' : Nat} (h : Once26 w0 w b mb n N cs (.slice (some ⟨g, off, none⟩) cs.length c)) (ht : OnlyIn [mb] w w1) (hT : TbAt w1 b mb n' N (cs.set y z)) : Once26 w0 (w1.setCell ⟨g, off + y, none⟩ (.int .i64 z)) b mb n' N (cs.set y z) (.slice (some ⟨g, off, none⟩) cs.length c) := by
  have l2 := h.lm
  obtain ⟨n1, n2⟩ := h.ne
  have hr := h.r.only ht (fun g hg => by simp only [List.mem_singleton]; rintro rfl; exact n2 hg)
  have hgl := (h.r.own_lt g (by simp [Value.ownBlock])).1
  have hts : OnlyIn [g] w1 (w1.setCell ⟨g, off + y, none⟩ (.int .i64 z)) := (OnlyIn.refl _ _).setCell (.inl (by simp)) _
  refine ⟨hT.only hts (by simp only [List.mem_singleton]; rintro rfl; exact n1 (by simp [Value.ownBlock])) (by simp only [List.mem_singleton]; rintro rfl; exact n2 (by simp [Value.ownBlock])), ?_, (h.on.then ht (by simp; omega)).then hts (by simp; omega), h.lb, h.lm⟩
  rw [List.length_set]
  have : intCells (cs.set y z) = (intCells cs).set y (.int .i64 z) := by simp [intCells, List.map_set]
  rw [this]
  exact hr.stored rfl y (.int .i64 z)
theorem Once26.more {v' : Value} {o : Obj} {n' : Nat} (h : Once26 w0 w b mb n N cs v) (ht : OnlyIn [b, mb] w w1) (hT : TbAt w1 b mb n' N (cs ++ [0])) (hs : Sl w2 w0.heap.size 26 1 v' (cs.length + 1) (intCells cs ++ intCells [0])) (hg : (w1.alloc o).grownBy w2 v.ownBlock) : Once26 w0 w2 b mb n' N (cs ++ [0]) v' := by
  have l1 := h.lb
  have l2 := h.lm
  obtain ⟨n1, n2⟩ := h.ne
  have htz : OnlyIn v.ownBlock.toList w1 w2 := ((OnlyIn.refl _ _).alloc _).grown hg (fun k hk => .inl (by simp [hk]))
  refine ⟨hT.only htz (fun hm => n1 (by simpa using hm)) (fun hm => n2 (by simpa using hm)), ?_, (h.on.then ht (by simp; omega)).then htz (fun j hj => .inr (h.r.own_lt j (by simpa using hj)).1), h.lb, h.lm⟩
  rw [List.length_append, intCells_append]
  exact hs
end
def once26 (w0 : World) (b mb N n : Nat) (v lv i : Value) (wr : World) : Prop := ∃ (k : Nat) (cs : List Int), k ≤ n ∧ i = .int .i64 (k : Int) ∧ lv = .int .i64 ((liveOf cs).length : Int) ∧ Once26 w0 wr b mb k N cs v ∧ cs.length ≤ k ∧ (liveOf cs).length ≤ N

set_option maxHeartbeats 4000000 in
set_option maxRecDepth 100000 in
theorem tOnce_ok (w : World) (a0 : Int) (g0 : -9223372036854775808 ≤ a0 ∧ a0 ≤ 9223372036854775807) (A : Option Addr) (c : Nat) (acts : List Act26) (hA : 0 < acts.length → ∃ g off, A = some ⟨g, off, none⟩ ∧ ∀ j u, (acts.flatMap Act26.cells)[j]? = some u → w.cell? ⟨g, off + j, none⟩ = some u)
    (hok : ∀ a ∈ acts, a.ok) (hac : acts.length ≤ 150) :
    Calls Try.prog 3 #[.int .i64 a0, .slice A acts.length c] w fun e w' => e = .returned (.bool true) ∧ OnlyIn [] w w' := by
  obtain ⟨h0, h0'⟩ := g0
  have HA := Lib.hid hA
  have HK := Lib.hid hok
  clear hA hok
  obtain ⟨N, hN⟩ : ∃ N : Nat, a0 % 20 = (N : Int) - 1 := ⟨(a0 % 20 + 1).toNat, by omega⟩
  have hN1 : 1 ≤ N := by omega
  have hN2 : N ≤ 20 := by omega
  have HN := Lib.hid hN
  clear hN
  have hs : (1 : Int) + ((N : Int) - 1) = (N : Int) := by omega
  obtain ⟨i0, hi0, hz0, hz1, hz2⟩ := info_parts Try.infoTE
  go_enter Try.func3, Try.ntmps3
  go_wp2_with fail
  refine (tKnown_walk w).mono ?_
  rintro e w1 ⟨rfl, ht1⟩
  go_wp2_with fail
  refine (Pick_any a0 20 w1 (by omega) (by omega) h0 h0').mono ?_
  rintro e w' ⟨rfl, rfl⟩
  rw [HN.out]
  go_wp2_with fail
  refine (tNew_ok w1 hN1 (by omega)).mono ?_
  rintro e w2 ⟨b, mb, rfl, ho2, ht2, hb, hm⟩
  have hbs := ht1.size
  have hO : Once26 w w2 b mb 0 N [] (.slice none 0 0) := ⟨ho2, Sl.nil _ _ _ _, ht1.trans ht2, by omega, by omega⟩
  clear ht1 ht2 h0 h0' ho2 hb hm hbs
  go_wp2_with fail
  have hO1 : Once26 w (w2.alloc (.cells #[] 26)) b mb 0 N [] (.slice (some ⟨w2.heap.size, 0, none⟩) 0 0) :=
    ⟨hO.t.alloc _, (Sl.lit w2 [] 26 0 rfl (by decide) (Nat.le_refl _)).mono hO.on.size, hO.on.alloc _, hO.lb, hO.lm⟩
  clear hO
  go_loopw [8, 9, 10] (once26 w b mb N acts.length) (fun _ _ i _ => acts.length - (RowKit.intOf i).toNat)
  case atStart => exact ⟨0, [], by omega, rfl, by simp [liveOf, liveTo], hO1, by simp, by simp [liveOf, liveTo]⟩
  case round =>
    clear hO1
    obtain ⟨k, cs, hk, rfl, rfl, hB, hck, hlv⟩ := hrel
    obtain ⟨L, hL⟩ : ∃ L, (liveOf cs).length = L := ⟨_, rfl⟩
    rw [hL] at hlv ⊢
    obtain ⟨A2, c2, rfl, hc2⟩ := hB.r.val
    by_cases hlt : k < acts.length
    · obtain ⟨g, off, rfl, hg⟩ := HA.out (by omega)
      obtain ⟨⟨kk, id, z⟩, hak⟩ : ∃ a, acts[k]? = some a := ⟨_, List.getElem?_eq_getElem hlt⟩
      obtain ⟨hkk, hid, hz⟩ := HK.out _ (List.mem_of_getElem? hak)
      simp only [ok64] at hid hz hkk
      have hx : ∀ j, j < 3 → (acts.flatMap Act26.cells)[k * 3 + j]? = ((⟨kk, id, z⟩ : Act26).cells)[j]? := fun j hj => by
        rw [flat_get Act26.len acts _ j hj, hak]
        rfl
      have hQ : ∀ W, OnlyIn [] w W → W.cell? ⟨g, off + k * 3, none⟩ = some (.int .i64 kk) ∧ W.cell? ⟨g, off + k * 3 + 1, none⟩ = some (.int .i64 id) ∧ W.cell? ⟨g, off + k * 3 + 2, none⟩ = some (.int .i64 z) := fun W hW =>
        ⟨hW.cell (hg _ _ (hx 0 (by omega))) (by simp), hW.cell (hg _ _ (hx 1 (by omega))) (by simp), hW.cell (hg _ _ (hx 2 (by omega))) (by simp)⟩
      have HQ := Lib.hid hQ
      clear hx hg hak hQ
      obtain ⟨q0, q1, q2⟩ := HQ.out wr hB.on
      have hsz := hB.on.size
      have hk2 : k < 100000 := by omega
      have hcs : cs.length < 100000 := by omega
      obtain ⟨C, hC⟩ : ∃ C, cs.length = C := ⟨_, rfl⟩
      have hwC : IntKind.i64.wrap ((C : Int) + 1) = (C : Int) + 1 := by rw [IntKind.wrap_i64]; omega
      by_cases hev : kk.tmod 2 = 0
      · have hev1 : (kk.tmod 2 == 0) = true := by simp [hev]
        by_cases hfl : L = N
        · have hL5 : (liveOf cs).length = N := by omega
          have hC5 := hC
          have hwL : IntKind.i64.wrap ((N : Int) - (N : Int)) = (N : Int) - (N : Int) := by rw [IntKind.wrap_i64]; omega
          have hop := tOpen_full wr hB.t hL5
          subst hfl
          rw [hC] at hB ⊢
          clear hL hz hid hev q1 q2
          go_wp2_with fail
          refine hop.mono ?_
          rintro e w3 ⟨rfl, ht3⟩
          have hB5 : Once26 w w3 b mb (k + 1) L cs (.slice A2 C c2) := by
            have h9 := hB.only0 ht3
            exact ⟨⟨h9.t.blk, h9.t.map.mono (by omega), h9.t.pos, h9.t.top, h9.t.small, by omega⟩, h9.r, h9.on, h9.lb, h9.lm⟩
          clear hB ht3 q0 hop
          go_wp2_with fail
          refine (tRoom_any w3 hB5.t).mono ?_
          rintro e w6 ⟨rfl, ht6⟩
          have hB6 := hB5.only0 ht6
          rw [hL5]
          clear hB5 ht6
          go_wp2_with fail
          refine (tLast_any w6 hB6.t).mono ?_
          rintro e w' ⟨rfl, rfl⟩
          rw [hC5]
          go_wp2_with fail
          go_roundw
          case rel => exact ⟨k + 1, cs, by omega, by go_num, by rw [hL5], hB6, by omega, by omega⟩
          case measure => simp [RowKit.intOf]; omega
        · have hroom : (liveOf cs).length < N := by omega
          have hop := tOpen_room wr hB.t hroom hcs hk2
          have hlm := liveOf_more_length cs
          have hL5 : (liveOf (cs ++ [0])).length = L + 1 := by omega
          have hC5 : (cs ++ [0]).length = C + 1 := by simp [hC]
          have hwL : IntKind.i64.wrap ((L : Int) + 1) = (L : Int) + 1 := by rw [IntKind.wrap_i64]; omega
          have hwN : IntKind.i64.wrap ((N : Int) - ((L : Int) + 1)) = (N : Int) - ((L : Int) + 1) := by rw [IntKind.wrap_i64]; omega
          have hdl : decide ((L : Int) < (N : Int)) = true := decide_eq_true (by omega)
          have hdl2 : decide (L < N) = true := decide_eq_true (by omega)
          rw [hC] at hop ⊢
          have HB := Lib.hid hB
          have hr := hB.r
          rw [hC] at hr
          clear hL hz hid hev q1 q2 hroom hlm hB
          go_wp2_with fail
          refine hop.mono ?_
          rintro e w3 ⟨rfl, hT3, ht3⟩
          have hs3 := hr.only ht3 (fun g' hg' => by
            simp only [List.mem_cons, List.not_mem_nil, or_false]
            rintro (rfl | rfl)
            · exact HB.out.ne.1 (by rw [hC]; exact hg')
            · exact HB.out.ne.2 (by rw [hC]; exact hg'))
          have hz3 := ht3.size
          have hs' := hs3.alloc (.cells (intCells [0]).toArray 26)
          have hrd := Rd.lit w3 (intCells [0]) 26 1 (size := 1) rfl
          have HT := Lib.hid (And.intro hT3 ht3)
          clear hT3 ht3 hs3 hr hop q0
          go_wp2_with (at_builtin; refine wpList_append_sl rfl _ _ 29 rfl w.heap.size 26 i0 _ 1 8 Try.underlying29 hi0 hz0 hz1 hz2 rfl (by decide) (.slice A2 _ c2) _ _ rfl hs' _ 1 _ rfl hrd (intCells_one _) (by simp only [maxLen]; omega) (by omega) (by simp; omega) ?_; intro v5 w5 hs5 hg5 hat5; obtain ⟨A5, c5, rfl, hc5⟩ := hs5.val)
          have hB5 := HB.out.more HT.out.2 HT.out.1 (by rw [hC]; exact hs5) (by rw [hC]; exact hg5)
          clear hs5 hg5 hat5 hs' hrd HT HB
          refine (tRoom_any w5 hB5.t).mono ?_
          rintro e w6 ⟨rfl, ht6⟩
          have hB6 := hB5.only0 ht6
          rw [hL5]
          clear hB5 ht6
          go_wp2_with fail
          refine (tLast_any w6 hB6.t).mono ?_
          rintro e w' ⟨rfl, rfl⟩
          rw [hC5]
          go_wp2_with fail
          go_roundw
          case rel => exact ⟨k + 1, cs ++ [0], by omega, by go_num, by rw [hL5] <;> go_num, hB6, by omega, by omega⟩
          case measure => simp [RowKit.intOf]; omega
      · have hev1 : (kk.tmod 2 == 0) = false := by simpa using hev
        obtain ⟨y, hy⟩ : ∃ y : Nat, id % ((C : Int) + 1) = (y : Int) := ⟨(id % ((C : Int) + 1)).toNat, by have := Int.emod_nonneg id (show (C : Int) + 1 ≠ 0 by omega); omega⟩
        have hyC : y ≤ C := by have := Int.emod_lt_of_pos id (show (0 : Int) < (C : Int) + 1 by omega); omega
        have hpk := Pick_any id ((C : Int) + 1) wr (by omega) (by omega) hid.1 hid.2
        rw [hy] at hpk
        have hcm : (1 : Int) + (y : Int) = (y : Int) + 1 := by omega
        have hwy : IntKind.i64.wrap ((y : Int) + 1) = (y : Int) + 1 := by rw [IntKind.wrap_i64]; omega
        have hcs1 : ((y : Int) + 1 - 1) = (y : Int) := by omega
        have hend := tEnd_any wr hB.t hk2 ((y : Int) + 1) (by omega) z
        have hwN : IntKind.i64.wrap ((N : Int) - (L : Int)) = (N : Int) - (L : Int) := by rw [IntKind.wrap_i64]; omega
        have HB := Lib.hid hB
        by_cases hyn : y < C
        · have hle : decide ((y : Int) + 1 ≤ (C : Int)) = true := decide_eq_true (by omega)
          have hyc : y < cs.length := by omega
          obtain ⟨g2, off2, cap2, hv, _, _, _⟩ := hB.r.form (by omega)
          injection hv with hA2 _ hcc
          subst hA2 hcc
          have hyi : (y : Int) < (C : Int) := by omega
          obtain ⟨d, hd⟩ : ∃ d, cs.getD y 0 = d := ⟨_, rfl⟩
          have hcel : ∀ W n', Once26 w W b mb n' N cs (.slice (some ⟨g2, off2, none⟩) cs.length c2) → W.cell? ⟨g2, off2 + y, none⟩ = some (.int .i64 d) := fun W n' h => by
            have h2 := h.r.cell_at (g := g2) (off := off2) (cap := c2) rfl (intCells_get hyc)
            rwa [getD_in hyc, hd] at h2
          have HC := Lib.hid hcel
          have hL5 := hL
          have hC5 := hC
          by_cases hmay : d = 0 ∧ z ≠ 0
          · obtain ⟨hd0, hz0⟩ := hmay
            subst hd0
            have hE0 : endE cs ((y : Int) + 1) z = 0 := by rw [endE_in hz0 hyc, hd]; rfl
            have hS0 : endS cs ((y : Int) + 1) z = cs.set y z := by unfold endS; rw [if_pos hE0, show ((y : Int) + 1 - 1).toNat = y by omega]
            rw [hS0, hE0] at hend
            have hzb : (z != 0) = true := by simpa using hz0
            have hlm := liveOf_end hyc hd hz0
            clear hL5 hC5
            have hL5 : (liveOf (cs.set y z)).length = L - 1 := by omega
            have hC5 : (cs.set y z).length = C := by simp [hC]
            have hLp : 1 ≤ L := by omega
            have hwL : IntKind.i64.wrap ((L : Int) - 1) = ((L - 1 : Nat) : Int) := by rw [IntKind.wrap_i64]; omega
            have hLe : (L : Int) - 1 = ((L - 1 : Nat) : Int) := by omega
            have hfz : ∀ W n', Once26 w W b mb n' N cs (.slice (some ⟨g2, off2, none⟩) cs.length c2) → W.frozen? ⟨g2, off2 + y, none⟩ = false := fun W n' h => h.r.free_at (g := g2) (off := off2) (cap := c2) rfl _
            have hwN2 : IntKind.i64.wrap ((N : Int) - ((L - 1 : Nat) : Int)) = (N : Int) - ((L - 1 : Nat) : Int) := by rw [IntKind.wrap_i64]; omega
            have HL := Lib.hid hlm
            have HFZ := Lib.hid hfz
            rw [hC] at hB ⊢
            have hmm : g2 ≠ mb ∧ g2 ≠ b := ⟨fun e => HB.out.ne.2 (by simp [Value.ownBlock, e]), fun e => HB.out.ne.1 (by simp [Value.ownBlock, e])⟩
            clear hL hz hid hev hE0 hS0 hy hyC hyn hB hd hcel hlm hfz hz0 hwN
            go_wp2_with fail
            refine hpk.mono ?_
            rintro e w' ⟨rfl, rfl⟩
            go_wp2_with fail
            refine hend.mono ?_
            rintro e w3 ⟨rfl, hT3, ht3⟩
            have hon3 : OnlyIn [] w w3 := HB.out.on.then ht3 (by have := HB.out.lm; simp; omega)
            obtain ⟨-, -, p2⟩ := HQ.out w3 hon3
            have p0 : w3.cell? ⟨g2, off2 + y, none⟩ = _ := ht3.cell (HC.out wr k HB.out) (by simp; exact hmm.1)
            have f0 : w3.frozen? ⟨g2, off2 + y, none⟩ = false := (HB.out.r.only ht3 (fun g' hg' => by simp only [List.mem_singleton]; rintro rfl; exact HB.out.ne.2 hg')).free_at (g := g2) (off := off2) (cap := c2) rfl _
            have hB5 := HB.out.cut ht3 hT3
            rw [hC] at hB5
            clear hT3 ht3 hon3 hend q0 q1 q2 HQ HC HB HFZ HL hmm
            rw [hLe] at *
            go_wp2_with fail
            refine (tRoom_any _ hB5.t).mono ?_
            rintro e w6 ⟨rfl, ht6⟩
            have hB6 := hB5.only0 ht6
            rw [hL5]
            clear hB5 ht6
            go_wp2_with fail
            refine (tLast_any w6 hB6.t).mono ?_
            rintro e w' ⟨rfl, rfl⟩
            rw [hC5]
            go_wp2_with fail
            go_roundw
            case rel => exact ⟨k + 1, cs.set y z, by omega, by go_num, by rw [hL5] <;> go_num, hB6, by omega, by omega⟩
            case measure => simp [RowKit.intOf]; omega
          · have hE0 : endE cs ((y : Int) + 1) z ≠ 0 := by
              by_cases hz0 : z = 0
              · subst hz0; rw [endE_zero]; decide
              · rw [endE_in hz0 hyc, hd, if_neg (fun e => hmay ⟨e, hz0⟩)]; decide
            have hS0 : endS cs ((y : Int) + 1) z = cs := by unfold endS; rw [if_neg hE0]
            rw [hS0] at hend
            have hEb : (endE cs ((y : Int) + 1) z == 0) = false := by simpa using hE0
            generalize endE cs ((y : Int) + 1) z = E at hend hEb
            rw [hC] at hB ⊢
            by_cases hd0 : d = 0
            · have hz0 : z = 0 := Classical.byContradiction fun h => hmay ⟨hd0, h⟩
              subst hd0 hz0
              clear hL hz hid hev hE0 hS0 hy hyC hyn hB hd hcel hmay
              go_wp2_with fail
              refine hpk.mono ?_
              rintro e w' ⟨rfl, rfl⟩
              go_wp2_with fail
              refine hend.mono ?_
              rintro e w3 ⟨rfl, hT3, ht3⟩
              have hB5 := HB.out.ended ht3 hT3
              have p0 := HC.out w3 _ hB5
              obtain ⟨-, -, p2⟩ := HQ.out w3 hB5.on
              clear hT3 ht3 hend q0 q1 q2 HQ HC HB
              rw [hC] at hB5
              go_wp2_with fail
              refine (tRoom_any w3 hB5.t).mono ?_
              rintro e w6 ⟨rfl, ht6⟩
              have hB6 := hB5.only0 ht6
              rw [hL5]
              clear hB5 ht6
              go_wp2_with fail
              refine (tLast_any w6 hB6.t).mono ?_
              rintro e w' ⟨rfl, rfl⟩
              rw [hC5]
              go_wp2_with fail
              go_roundw
              case rel => exact ⟨k + 1, cs, by omega, by go_num, by rw [hL5] <;> go_num, hB6, by omega, by omega⟩
              case measure => simp [RowKit.intOf]; omega
            · have hdb : (d == 0) = false := by simpa using hd0
              clear hL hz hid hev hE0 hS0 hy hyC hyn hB hd hcel hmay hd0
              go_wp2_with fail
              refine hpk.mono ?_
              rintro e w' ⟨rfl, rfl⟩
              go_wp2_with fail
              refine hend.mono ?_
              rintro e w3 ⟨rfl, hT3, ht3⟩
              have hB5 := HB.out.ended ht3 hT3
              have p0 := HC.out w3 _ hB5
              clear hT3 ht3 hend q0 q1 q2 HQ HC HB
              rw [hC] at hB5
              go_wp2_with fail
              refine (tRoom_any w3 hB5.t).mono ?_
              rintro e w6 ⟨rfl, ht6⟩
              have hB6 := hB5.only0 ht6
              rw [hL5]
              clear hB5 ht6
              go_wp2_with fail
              refine (tLast_any w6 hB6.t).mono ?_
              rintro e w' ⟨rfl, rfl⟩
              rw [hC5]
              go_wp2_with fail
              go_roundw
              case rel => exact ⟨k + 1, cs, by omega, by go_num, by rw [hL5] <;> go_num, hB6, by omega, by omega⟩
              case measure => simp [RowKit.intOf]; omega
        · have hyy : y = C := by omega
          have hE0 : endE cs ((y : Int) + 1) z ≠ 0 := by
            by_cases hz0 : z = 0
            · subst hz0; rw [endE_zero]; decide
            · rw [endE_out hz0 (by omega)]; decide
          have hS0 : endS cs ((y : Int) + 1) z = cs := by unfold endS; rw [if_neg hE0]
          rw [hS0] at hend
          have hEb : (endE cs ((y : Int) + 1) z == 0) = false := by simpa using hE0
          generalize endE cs ((y : Int) + 1) z = E at hend hEb
          have hle : decide ((y : Int) + 1 ≤ (C : Int)) = false := decide_eq_false (by omega)
          have hL5 := hL
          have hC5 := hC
          rw [hC] at hB ⊢
          clear hL hz hid hev hE0 hS0 hy hyy hyC hyn hB
          go_wp2_with fail
          refine hpk.mono ?_
          rintro e w' ⟨rfl, rfl⟩
          go_wp2_with fail
          refine hend.mono ?_
          rintro e w3 ⟨rfl, hT3, ht3⟩
          have hB5 := HB.out.ended ht3 hT3
          clear hT3 ht3 hend q0 q1 q2 HQ HB
          rw [hC] at hB5
          go_wp2_with fail
          refine (tRoom_any w3 hB5.t).mono ?_
          rintro e w6 ⟨rfl, ht6⟩
          have hB6 := hB5.only0 ht6
          rw [hL5]
          clear hB5 ht6
          go_wp2_with fail
          refine (tLast_any w6 hB6.t).mono ?_
          rintro e w' ⟨rfl, rfl⟩
          rw [hC5]
          go_wp2_with fail
          go_roundw
          case rel => exact ⟨k + 1, cs, by omega, by go_num, by rw [hL5] <;> go_num, hB6, by omega, by omega⟩
          case measure => simp [RowKit.intOf]; omega
    · obtain rfl : k = acts.length := by omega
      obtain ⟨C, hC⟩ : ∃ C, cs.length = C := ⟨_, rfl⟩
      have HB := Lib.hid hB
      have hCk : C ≤ 150 := by omega
      have HL := Lib.hid hL
      have hliv := tLive_any wr hB.t
      rw [hL] at hliv
      have hsz := hB.on.size
      rw [hC] at hB ⊢
      clear hB hL
      go_wp2_with fail
      refine hliv.mono ?_
      rintro e wE ⟨vw, rfl, hsw, htE⟩
      have hB1 := HB.out.only0 htE
      obtain ⟨Aw, cw, rfl, hcw⟩ := hsw.val
      have HB1 := Lib.hid hB1
      have HSW := Lib.hid hsw
      clear hB1 htE hliv HB hsw
      go_wp2_with fail
      go_loopw [16, 18] (fun at_ i wz => ∃ j : Nat, j ≤ C ∧ i = .int .i64 ((j : Int) + 1) ∧ at_ = .int .i64 ((liveTo cs j).length : Int) ∧ OnlyIn [] wE wz) (fun _ i _ => C + 1 - (RowKit.intOf i).toNat)
      case atStart => exact ⟨0, by omega, rfl, by simp [liveTo], OnlyIn.refl _ _⟩
      case round =>
        obtain ⟨j, hj, rfl, rfl, htz⟩ := hrel
        obtain ⟨M, hM⟩ : ∃ M, (liveTo cs j).length = M := ⟨_, rfl⟩
        have hMj : M ≤ j := by rw [← hM]; exact liveTo_le cs j
        have hcj : ((j : Int) + 1 - 1) = (j : Int) := by omega
        have hwj : IntKind.i64.wrap ((j : Int) + 1) = (j : Int) + 1 := by rw [IntKind.wrap_i64]; omega
        rw [hM]
        by_cases hjl : j < C
        · have hle : decide ((j : Int) + 1 ≤ (C : Int)) = true := decide_eq_true (by omega)
          have hji : (j : Int) < (C : Int) := by omega
          have hjc : j < cs.length := by omega
          have hBz := HB1.out.only0 htz
          obtain ⟨g2, off2, cap2, hv, _, _, _⟩ := hBz.r.form (by omega)
          injection hv with hA2 _ hcc
          subst hA2 hcc
          have p0 := hBz.r.cell_at (g := g2) (off := off2) (cap := c2) rfl (intCells_get hjc)
          rw [getD_in hjc] at p0
          have hen := ended_any wr hBz.t ((j : Int) + 1) (by omega) (cs.getD j 0) 0
          rw [causeA_in hjc] at hen
          simp only [beq_self_eq_true, Bool.and_self] at hen
          obtain ⟨d, hd⟩ : ∃ d, cs.getD j 0 = d := ⟨_, rfl⟩
          rw [hd] at p0 hen
          by_cases hd0 : d = 0
          · subst hd0
            have hat := liveOf_at hjc hd
            rw [hM] at hat
            have hML : M < L := by
              have := (List.getElem?_eq_some_iff.1 hat).1
              rw [HL.out] at this
              exact this
            have hsz2 := HSW.out.only htz (by simp)
            have hLL : (intCells (liveOf cs))[M]? = some (.int .i64 ((j : Int) + 1)) := by simp [intCells, hat]
            obtain ⟨g3, off3, cap3, hv3, _, _, _⟩ := hsz2.form (by omega)
            injection hv3 with hA3 _ hcc3
            subst hA3 hcc3
            have p3 := hsz2.cell_at (g := g3) (off := off3) (cap := cw) rfl hLL
            have hMi : (M : Int) < (L : Int) := by omega
            have hge : decide ((L : Int) ≤ (M : Int)) = false := decide_eq_false (by omega)
            have hwM : IntKind.i64.wrap ((M : Int) + 1) = (M : Int) + 1 := by rw [IntKind.wrap_i64]; omega
            have hly := liveTo_yes hd
            have hMy : (liveTo cs (j + 1)).length = M + 1 := by rw [hly]; simp [hM]
            have HH := Lib.hid (And.intro htz hMy)
            clear hBz hd hat hsz2 hLL hly hMy hM
            go_wp2_with fail
            refine hen.mono ?_
            rintro e w7 ⟨rfl, ht7⟩
            have p00 := ht7.cell p0 (by simp)
            have p33 := ht7.cell p3 (by simp)
            clear p0 p3 hen
            go_wp2_with fail
            go_roundw
            case rel => exact ⟨j + 1, by omega, by go_num, by rw [HH.out.2] <;> go_num, HH.out.1.trans ht7⟩
            case measure => simp [RowKit.intOf]; omega
          · have hdb : (d == 0) = false := by simpa using hd0
            have hly := liveTo_no (cs := cs) (k := j) (by rw [hd]; exact hd0)
            have hMy : (liveTo cs (j + 1)).length = M := by rw [hly, hM]
            have HH := Lib.hid (And.intro htz hMy)
            clear hBz hd hly hMy hM hd0
            go_wp2_with fail
            refine hen.mono ?_
            rintro e w7 ⟨rfl, ht7⟩
            have p00 := ht7.cell p0 (by simp)
            clear p0 hen
            go_wp2_with fail
            go_roundw
            case rel => exact ⟨j + 1, by omega, by go_num, by rw [HH.out.2], HH.out.1.trans ht7⟩
            case measure => simp [RowKit.intOf]; omega
        · obtain rfl : j = C := by omega
          have hle : decide ((j : Int) + 1 ≤ (j : Int)) = false := decide_eq_false (by omega)
          have hML : M = L := by
            rw [← hM, ← HL.out, ← hC]
            rfl
          subst hML
          have HH := Lib.hid htz
          clear hM hC
          go_wp2_with fail
          go_ret
          exact ⟨by simp, HB1.out.on.trans HH.out⟩

set_option maxRecDepth 100000 in
theorem tOnce_long (w : World) (a0 : Int) (g0 : -9223372036854775808 ≤ a0 ∧ a0 ≤ 9223372036854775807) (A : Option Addr) (c n : Nat) (hn : 150 < n) :
    Calls Try.prog 3 #[.int .i64 a0, .slice A n c] w fun e w' => e = .returned (.bool true) ∧ OnlyIn [] w w' := by
  obtain ⟨h0, h0'⟩ := g0
  obtain ⟨N, hN⟩ : ∃ N : Nat, a0 % 20 = (N : Int) - 1 := ⟨(a0 % 20 + 1).toNat, by omega⟩
  have hN1 : 1 ≤ N := by omega
  have hN2 : N ≤ 20 := by omega
  have HN := Lib.hid hN
  clear hN
  have hs : (1 : Int) + ((N : Int) - 1) = (N : Int) := by omega
  go_enter Try.func3, Try.ntmps3
  go_wp2_with fail
  refine (tKnown_walk w).mono ?_
  rintro e w1 ⟨rfl, ht1⟩
  go_wp2_with fail
  refine (Pick_any a0 20 w1 (by omega) (by omega) h0 h0').mono ?_
  rintro e w' ⟨rfl, rfl⟩
  rw [HN.out]
  go_wp2_with fail
  refine (tNew_ok w1 hN1 (by omega)).mono ?_
  rintro e w2 ⟨b, mb, rfl, ho2, ht2, hb, hm⟩
  go_wp2_with fail
  go_ret
  exact ⟨rfl, ht1.trans ht2⟩
set_option maxRecDepth 100000 in
theorem tOnce_walk {w : World} (a0 : Int) (g0 : -9223372036854775808 ≤ a0 ∧ a0 ≤ 9223372036854775807) (x : Value × List Act26) (y : Rd w 3 x.1 x.2.length (x.2.flatMap Act26.cells) ∧ (∀ a ∈ x.2, a.ok) ∧ x.2.length ≤ maxLen) :
    Calls Try.prog 3 #[.int .i64 a0, x.1] w fun e w' => e = .returned (.bool true) ∧ OnlyIn [] w w' := by
  obtain ⟨v, acts⟩ := x
  obtain ⟨⟨-, A, c, hv, -, hA⟩, hok, -⟩ := y
  simp only at hv hA hok ⊢
  subst hv
  by_cases hac : acts.length ≤ 150
  · exact tOnce_ok w a0 g0 A c acts hA hok hac
  · exact tOnce_long w a0 g0 A c acts.length (by omega)
end Go.Proofs.Ytoknnplfdhffnaa
