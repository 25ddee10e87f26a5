/-
  Law 24, OutboxOrder: the walk.
-/
import Derived.Test.YtcgbafdagckgcaaOutboxg
import Derived.Test.YtcgbafdagckgcaaOutboxNoneWalk
import Derived.Test.YtcgbafdagckgcaaOpen24
import Derived.Deep.RegionWith
import Derived.Deep.RegionHeld3
import Derived.Deep.DeepCutAuto
import Derived.Deep.CutBlock
namespace Go.Mine
theorem Rd.take {w : World} {size n c m : Nat} {A : Option Addr} {xs : List Value} (h : Rd w size (.slice A n c) n xs) (hm : m ≤ n) : Rd w size (.slice A m c) m (xs.take (m * size)) := by
  obtain ⟨h1, A', c', h2, h3, h4⟩ := h
  simp only [Value.slice.injEq, true_and] at h2
  obtain ⟨rfl, rfl⟩ := h2
  have hle := Nat.mul_le_mul_right size hm
  refine ⟨by rw [List.length_take]; omega, A, c, rfl, by omega, fun hp => ?_⟩
  obtain ⟨g, off, h5, h6⟩ := h4 (by omega)
  refine ⟨g, off, h5, fun j u hu => h6 j u ?_⟩
  have hj := (List.getElem?_eq_some_iff.1 hu).1
  rw [List.length_take] at hj
  rwa [List.getElem?_take_of_lt (by omega)] at hu
theorem flat_take {α : Type} {f : α → List Value} {k : Nat} (hf : ∀ x, (f x).length = k) (xs : List α) {m : Nat} (hm : m ≤ xs.length) : (xs.flatMap f).take (m * k) = (xs.take m).flatMap f := by
  have h : xs.flatMap f = (xs.take m).flatMap f ++ (xs.drop m).flatMap f := by rw [← List.flatMap_append, List.take_append_drop]
  rw [h, List.take_left' (by rw [flat_length hf, List.length_take, Nat.min_eq_left hm])]
theorem flat_drop {α : Type} {f : α → List Value} {k : Nat} (hf : ∀ x, (f x).length = k) (xs : List α) {m : Nat} (hm : m ≤ xs.length) : (xs.flatMap f).drop (m * k) = (xs.drop m).flatMap f := by
  have h : xs.flatMap f = (xs.take m).flatMap f ++ (xs.drop m).flatMap f := by rw [← List.flatMap_append, List.take_append_drop]
  rw [h, List.drop_left' (by rw [flat_length hf, List.length_take, Nat.min_eq_left hm])]
theorem Rd.drop {w : World} {size n c m : Nat} {A A' : Option Addr} {xs : List Value} (h : Rd w size (.slice A n c) n xs) (hm : m ≤ n) (hA : m < n → A' = A.map fun a => a.add (m * size)) : Rd w size (.slice A' (n - m) (c - m)) (n - m) (xs.drop (m * size)) := by
  obtain ⟨h1, A0, c', h2, h3, h4⟩ := h
  simp only [Value.slice.injEq, true_and] at h2
  obtain ⟨rfl, rfl⟩ := h2
  refine ⟨by rw [List.length_drop, Nat.sub_mul]; omega, A', c - m, rfl, by omega, fun hp => ?_⟩
  obtain ⟨g, off, h5, h6⟩ := h4 (by omega)
  refine ⟨g, off + m * size, by rw [hA (by omega), h5]; simp [Addr.add], fun j u hu => ?_⟩
  rw [List.getElem?_drop] at hu
  have := h6 (m * size + j) u hu
  rwa [← Nat.add_assoc] at this
end Go.Mine
namespace Go.Proofs.Ytcgbafdagckgcaa
open Go.RowKit Go.Mine

/-- What was pushed and what came out, so far. -/
structure Ord24 (w0 w : World) (b r N : Nat) (vi vo : Value) (ins : List Item) (m : Nat) : Prop where
  hm : m ≤ ins.length
  ob : Ob w b r N ins.length (ins.drop m)
  si : Sl w w0.heap.size 30 4 vi ins.length (ins.flatMap Item.cells)
  so : Sl w w0.heap.size 30 4 vo m ((ins.take m).flatMap Item.cells)
  on : OnlyIn [] w0 w
  ir : vi.ownBlock ≠ some r
  or_ : vo.ownBlock ≠ some r
  io : ∀ g, vi.ownBlock = some g → vo.ownBlock ≠ some g
  lb : w0.heap.size ≤ b
  lr : w0.heap.size ≤ r

section
variable {w0 w w1 w2 : World} {b r N m : Nat} {vi vo : Value} {ins : List Item}
theorem Ord24.rlt (h : Ord24 w0 w b r N vi vo ins m) : r < w.heap.size := by obtain ⟨rs, _, hr, _⟩ := h.ob.ring; exact hr.lt
theorem Ord24.only0 (h : Ord24 w0 w b r N vi vo ins m) (ht : OnlyIn [] w w1) : Ord24 w0 w1 b r N vi vo ins m :=
  ⟨h.hm, h.ob.only ht (by simp) (by simp), h.si.only ht (by simp), h.so.only ht (by simp), h.on.trans ht, h.ir, h.or_, h.io, h.lb, h.lr⟩
theorem Ord24.nib (h : Ord24 w0 w b r N vi vo ins m) : vi.ownBlock ≠ some b := h.si.ne_blk h.ob.blk (by decide)
theorem Ord24.nob (h : Ord24 w0 w b r N vi vo ins m) : vo.ownBlock ≠ some b := h.so.ne_blk h.ob.blk (by decide)
theorem Ord24.pushed {it : Item} {vi' : Value} (h : Ord24 w0 w b r N vi vo ins m) (ho1 : Ob w1 b r N (ins.length + 1) (ins.drop m ++ [it])) (ht1 : OnlyIn [b, r] w w1)
    (hs2 : Sl w2 w0.heap.size 30 4 vi' (ins.length + 1) (ins.flatMap Item.cells ++ it.cells)) (hg : w1.grownBy w2 vi.ownBlock) (hat : ∀ g, vi'.ownBlock = some g → vi.ownBlock = some g ∨ w1.heap.size ≤ g) :
    Ord24 w0 w2 b r N vi' vo (ins ++ [it]) m := by
  have hm := h.hm
  have hsz := ht1.size
  have hrl := h.rlt
  have hlr := h.lr
  have hlb := h.lb
  have hso1 := h.so.only ht1 (fun g hg hmem => by
    simp only [List.mem_cons, List.not_mem_nil, or_false] at hmem
    rcases hmem with rfl | rfl
    · exact h.nob hg
    · exact h.or_ hg)
  obtain ⟨rs, _, hr1, _⟩ := ho1.ring
  refine ⟨by simp; omega, ?_, by simpa using hs2, ?_, ?_, ?_, h.or_, ?_, hlb, hlr⟩
  · have e : (ins ++ [it]).drop m = ins.drop m ++ [it] := List.drop_append_of_le_length hm
    rw [e, List.length_append, List.length_singleton]
    obtain ⟨q1, q2, q3, q4, q5, q6, rs, q7, q8, q9⟩ := ho1
    exact ⟨q1, q2, q3, q4, q5, q6.grown hg (fun e => h.nib e.symm), rs, q7, q8.grown hg (fun e => h.ir e.symm), q9⟩
  · rw [List.take_append_of_le_length hm]
    exact hso1.grown hg (fun g hg hv => h.io g hv.symm hg)
  · exact (h.on.then ht1 (by simp; omega)).grown hg (fun g hv => .inr (h.si.own_lt g hv).1)
  · intro hv
    rcases hat r hv with h1 | h1
    · exact h.ir h1
    · omega
  · intro g hv ho
    rcases hat g hv with h1 | h1
    · exact h.io g h1 ho
    · have := (h.so.own_lt g ho).2; omega
theorem Ord24.out {m' : Nat} {vo' : Value} (h : Ord24 w0 w b r N vi vo ins m) (hm' : m' ≤ ins.length) (ho1 : Ob w1 b r N ins.length (ins.drop m')) (ht1 : OnlyIn [b] w w1)
    (hs2 : Sl w2 w0.heap.size 30 4 vo' m' ((ins.take m').flatMap Item.cells)) (hg : w1.grownBy w2 vo.ownBlock) (hat : ∀ g, vo'.ownBlock = some g → vo.ownBlock = some g ∨ w1.heap.size ≤ g) :
    Ord24 w0 w2 b r N vi vo' ins m' := by
  have hsz := ht1.size
  have hrl := h.rlt
  have hlr := h.lr
  have hlb := h.lb
  have hsi1 := h.si.only ht1 (fun g hg hmem => by
    simp only [List.mem_cons, List.not_mem_nil, or_false] at hmem
    subst hmem
    exact h.nib hg)
  refine ⟨hm', ?_, ?_, hs2, ?_, h.ir, ?_, ?_, hlb, hlr⟩
  · obtain ⟨q1, q2, q3, q4, q5, q6, rs, q7, q8, q9⟩ := ho1
    exact ⟨q1, q2, q3, q4, q5, q6.grown hg (fun e => h.nob e.symm), rs, q7, q8.grown hg (fun e => h.or_ e.symm), q9⟩
  · exact hsi1.grown hg (fun g hg hv => h.io g hg hv.symm)
  · exact (h.on.then ht1 (by simp; omega)).grown hg (fun g hv => .inr (h.so.own_lt g hv).1)
  · intro hv
    rcases hat r hv with h1 | h1
    · exact h.or_ h1
    · omega
  · intro g hv ho
    rcases hat g ho with h1 | h1
    · exact h.io g hv h1
    · have := (h.si.own_lt g hv).2; omega
end

theorem Try.infoItem9 : (Try.prog.info? 30).map (fun i => (i.zero, i.size, i.bytes)) = some (some (.agg #[.int .i64 0, .int .i64 0, .int .i64 0, .int .i64 0]), 4, 32) := by kernel_rfl

def ordAt (w0 : World) (b r N n : Nat) (vi vo i : Value) (wr : World) : Prop := ∃ (k m : Nat) (ins : List Item), k ≤ n ∧ i = .int .i64 (k : Int) ∧ ins.length ≤ k ∧ Ord24 w0 wr b r N vi vo ins m

set_option maxHeartbeats 8000000 in
set_option maxRecDepth 100000 in
theorem Order_ok (w : World) (a0 : Int) (g0 : -9223372036854775808 ≤ a0 ∧ a0 ≤ 9223372036854775807) (A : Option Addr) (c : Nat) (acts : List Act24) (hA : 0 < acts.length → ∃ g off, A = some ⟨g, off, none⟩ ∧ ∀ j u, (acts.flatMap Act24.cells)[j]? = some u → w.cell? ⟨g, off + j, none⟩ = some u)
    (hok : ∀ a ∈ acts, a.ok) (hac : acts.length ≤ 100) :
    Calls Try.prog 7 #[.int .i64 a0, .slice A acts.length c] w fun e w' => e = .returned (.bool true) ∧ OnlyIn [] w w' := by
  obtain ⟨h0, h0'⟩ := g0
  obtain ⟨i0, hi0, hz0, hz1, hz2⟩ := info_parts Try.infoItem9
  have HA := Lib.hid hA
  have HK := Lib.hid hok
  clear hA hok
  obtain ⟨N, hN⟩ : ∃ N : Nat, a0 % 12 = (N : Int) - 1 := ⟨(a0 % 12 + 1).toNat, by omega⟩
  have hN1 : 1 ≤ N := by omega
  have hN2 : N ≤ 12 := by omega
  have HN := Lib.hid hN
  clear hN
  have hs : (1 : Int) + ((N : Int) - 1) = (N : Int) := by omega
  go_enter Try.func7, Try.ntmps7
  go_wp2_with fail
  refine (Known_walk w).mono ?_
  rintro e w1 ⟨rfl, ht1⟩
  go_wp2_with fail
  refine (Pick_any a0 12 w1 (by omega) (by omega) h0 h0').mono ?_
  rintro e w' ⟨rfl, rfl⟩
  rw [HN.out]
  go_wp2_with fail
  refine (New_ok w1 N hN1 (by omega)).mono ?_
  rintro e w2 ⟨rfl, ho2, ht2⟩
  generalize hb : w1.heap.size + 1 = b at *
  generalize hr : w1.heap.size = r at *
  have hO : Ord24 w w2 b r N (.slice none 0 0) (.slice none 0 0) [] 0 :=
    ⟨by simp, ho2, Sl.nil _ _ _ _, Sl.nil _ _ _ _, ht1.trans ht2, by simp [Value.ownBlock], by simp [Value.ownBlock], by simp [Value.ownBlock], by have := ht1.size; omega, by have := ht1.size; omega⟩
  clear hb hr ht1 ht2 h0 h0' ho2
  go_wp2_with fail
  go_loopw [8, 9, 10] (ordAt w b r N acts.length) (fun _ _ i _ => acts.length - (intOf i).toNat)
  case atStart => exact ⟨0, 0, [], by omega, rfl, by simp, hO⟩
  case round =>
    clear hO
    obtain ⟨k, m, ins, hk, rfl, hik, hO⟩ := hrel
    by_cases hlt : k < acts.length
    · obtain ⟨g, off, rfl, hg⟩ := HA.out (by omega)
      obtain ⟨⟨kk, it⟩, hak⟩ : ∃ a, acts[k]? = some a := ⟨_, List.getElem?_eq_getElem hlt⟩
      have hkk : ok64 kk := HK.out _ (List.mem_of_getElem? hak)
      have hx : ∀ j, j < 5 → (acts.flatMap Act24.cells)[k * 5 + j]? = ((⟨kk, it⟩ : Act24).cells)[j]? := fun j hj => by
        rw [flat_get Act24.len acts _ j hj, hak]
        rfl
      have q0 : wr.cell? ⟨g, off + k * 5, none⟩ = _ := hO.on.cell (hg _ _ (hx 0 (by omega))) (by simp)
      have q1 := hg _ _ (hx 1 (by omega))
      have q2 := hg _ _ (hx 2 (by omega))
      have q3 := hg _ _ (hx 3 (by omega))
      have q4 := hg _ _ (hx 4 (by omega))
      have hQ : ∀ W, OnlyIn [] w W → W.cell? ⟨g, off + k * 5 + 1, none⟩ = some (.int .i64 it.f) ∧ W.cell? ⟨g, off + k * 5 + 1 + 1, none⟩ = some (.int .i64 it.g) ∧ W.cell? ⟨g, off + k * 5 + 1 + 2, none⟩ = some (.int .i64 it.t) ∧ W.cell? ⟨g, off + k * 5 + 1 + 3, none⟩ = some (.int .i64 it.y) :=
        fun W hW => ⟨hW.cell q1 (by simp), hW.cell q2 (by simp), hW.cell q3 (by simp), hW.cell q4 (by simp)⟩
      have HQ := Lib.hid hQ
      clear hx hg hak q1 q2 q3 q4 hQ
      have hlen := hO.ob.len
      have hm := hO.hm
      obtain ⟨p, hp⟩ : ∃ p : Int, kk % 6 = p := ⟨_, rfl⟩
      have hp0 : 0 ≤ p := by rw [← hp]; exact Int.emod_nonneg _ (by omega)
      have hp1 : p < 6 := by rw [← hp]; exact Int.emod_lt_of_pos _ (by omega)
      have hpick := Pick_any kk 6 wr (by omega) (by omega) hkk.1 hkk.2
      rw [hp] at hpick
      obtain ⟨A1, c1, rfl, hc1⟩ := hO.si.val
      obtain ⟨A2, c2, rfl, hc2⟩ := hO.so.val
      clear hp hkk
      go_upto_block 2 with (go_at_call 14; refine hpick.mono ?_; rintro e w' ⟨rfl, rfl⟩)
      go_cut [8, 9] from 34 to 151 (fun vi vo wx => ∃ m' ins', ins'.length ≤ k + 1 ∧ Ord24 w wx b r N vi vo ins' m')
      case first =>
        by_cases c0 : p < 3
        · have d0 : p = 0 ∨ p = 1 ∨ p = 2 := by omega
          obtain ⟨h1, h2, h3, h4⟩ := HQ.out wr hO.on
          by_cases hf : (ins.drop m).length = N
          · have hfull := Push_full wr hO.ob hf it
            have hsub : (ins.length : Int) - (m : Int) = (N : Int) := by rw [List.length_drop] at hf; omega
            have HO := Lib.hid hO
            have HH := Lib.hid (And.intro hf hik)
            clear hf hO hpick hlen hik
            rcases d0 with rfl | rfl | rfl
            all_goals
              go_wp2_with (go_at_call 16; refine hfull.mono ?_; rintro e w3 ⟨rfl, ht3⟩)
              go_meet
              exact ⟨m, ins, by have := HH.out.2; omega, HO.out.only0 ht3⟩
          · have hroom := Push_room wr hO.ob (by omega) (by omega) it
            obtain ⟨d, hd⟩ : ∃ d : Nat, (ins.drop m).length = d := ⟨_, rfl⟩
            have hsub : (ins.length : Int) - (m : Int) = (d : Int) := by rw [← hd, List.length_drop]; omega
            have hdn : (d == N) = false := by simp; omega
            have hdn1 : decide (d = N) = false := by simp; omega
            have hdn2 : ¬ d = N := by omega
            have hdn3 : ((d : Int) == (N : Int)) = false := by simp; omega
            have hil : ins.length ≤ 100 := by omega
            clear hd
            have HO := Lib.hid hO
            have HH := Lib.hid hik
            clear hf hO hpick hlen hik
            rcases d0 with rfl | rfl | rfl
            all_goals
              go_wp2_with fail
              refine hroom.mono ?_
              rintro e w3 ⟨rfl, ho3, ht3⟩
              have hon3 : OnlyIn [] w w3 := HO.out.on.then ht3 (by have := HO.out.lb; have := HO.out.lr; simp; omega)
              obtain ⟨g1, g2, g3, g4⟩ := HQ.out w3 hon3
              have hs3 := HO.out.si.only ht3 (fun g hg hmem => by
                simp only [List.mem_cons, List.not_mem_nil, or_false] at hmem
                rcases hmem with rfl | rfl
                · exact HO.out.nib hg
                · exact HO.out.ir hg)
              have hbs := hon3.size
              have ha := ho3.alloc (.cells it.cells.toArray 30)
              have HT := Lib.hid (And.intro ha (ht3.alloc (.cells it.cells.toArray 30)))
              clear ha ht3 ho3 h1 h2 h3 h4 hon3 q0
              go_wp2_with (at_builtin; refine wpList_append_sl rfl _ _ 42 rfl w.heap.size 30 i0 _ 4 32 Try.underlying42 hi0 hz0 hz1 hz2 rfl (by decide) (.slice A1 ins.length c1) ins.length _ rfl (hs3.alloc _) _ 1 it.cells rfl (Rd.lit w3 it.cells 30 1 rfl) (by simp [Item.cells, Value.oneCell']) (by simp only [maxLen]; omega) (by omega) (by simp; omega) ?_; intro v' w4 hs' hg' hat')
              go_meet
              exact ⟨m, ins ++ [it], by have := HH.out; simp; omega, HO.out.pushed HT.out.1 HT.out.2 hs' hg' hat'⟩
        · by_cases c3 : p < 5
          · have d0 : p = 3 ∨ p = 4 := by omega
            by_cases hme : m = ins.length
            · have hemp := Pop_empty wr (b := b) (r := r) (N := N) (came := ins.length) (by have := hO.ob; rwa [List.drop_of_length_le (by omega)] at this)
              have dl : decide (m < ins.length) = false := by simp; omega
              have HO := Lib.hid hO
              have HH := Lib.hid (And.intro hik hme)
              clear hO hpick hlen hik hm hme
              rcases d0 with rfl | rfl
              all_goals
                go_wp2_with (go_at_call 18; refine hemp.mono ?_; rintro e w3 ⟨rfl, ht3⟩)
                go_meet
                exact ⟨m, ins, by have := HH.out.1; omega, (HO.out.only0 ht3).only0 ((OnlyIn.refl _ _).alloc _)⟩
            · have hml : m < ins.length := by omega
              obtain ⟨x, hx⟩ : ∃ x, ins[m]? = some x := ⟨_, List.getElem?_eq_getElem hml⟩
              have hdr : ins.drop m = x :: ins.drop (m + 1) := by
                rw [List.drop_eq_getElem_cons hml]
                rw [List.getElem?_eq_getElem hml] at hx
                injection hx with hx
                rw [hx]
              have hpop := Pop_ok wr (b := b) (r := r) (N := N) (came := ins.length) (i := x) (l := ins.drop (m + 1)) (by have := hO.ob; rwa [hdr] at this)
              have hfl : (ins.take (m + 1)).flatMap Item.cells = (ins.take m).flatMap Item.cells ++ x.cells := by
                rw [List.take_add_one, hx, List.flatMap_append]; simp
              have dl : decide (m < ins.length) = true := by simp; omega
              have hil : m ≤ 100 := by omega
              have HO := Lib.hid hO
              have HH := Lib.hid (And.intro hik (And.intro hml hfl))
              clear hO hpick hlen hik hm hme hx hdr hfl hml
              rcases d0 with rfl | rfl
              all_goals
                go_wp2_with fail
                refine hpop.mono ?_
                rintro e w3 ⟨rfl, ho3, ht3⟩
                have ho4 := (ho3.alloc (.cells x.cells.toArray 30)).alloc (.cells x.cells.toArray 30)
                have ht4 := (ht3.alloc (.cells x.cells.toArray 30)).alloc (.cells x.cells.toArray 30)
                have hon3 : OnlyIn [] w w3 := HO.out.on.then ht3 (by have := HO.out.lb; simp; omega)
                have hs3 := (HO.out.so.only ht3 (fun g hg hmem => by
                  simp only [List.mem_cons, List.not_mem_nil, or_false] at hmem
                  subst hmem
                  exact HO.out.nob hg)).alloc (.cells x.cells.toArray 30)
                have hbs := hon3.size
                have HT := Lib.hid (And.intro ho4 ht4)
                have hrd := Rd.lit (size := 4) (w3.alloc (.cells x.cells.toArray 30)) x.cells 30 1 rfl
                simp only [World.size_alloc] at hrd
                clear ho3 ho4 ht3 ht4 hon3 q0
                go_wp2_with (at_builtin; refine wpList_append_sl rfl _ _ 42 rfl w.heap.size 30 i0 _ 4 32 Try.underlying42 hi0 hz0 hz1 hz2 rfl (by decide) (.slice A2 m c2) m _ rfl (hs3.alloc _) _ 1 x.cells rfl hrd (by simp [Item.cells, Value.oneCell']) (by simp only [maxLen]; omega) (by omega) (by simp; omega) ?_; intro v' w4 hs' hg' hat')
                go_meet
                exact ⟨m + 1, ins, by have := HH.out.1; omega, HO.out.out (by have := HH.out.2.1; omega) HT.out.1 HT.out.2 (by rw [HH.out.2.2]; exact hs') hg' hat'⟩
          · have d0 : p = 5 := by omega
            subst d0
            have hclr := Clear_any wr b r N ins.length _ hO.ob
            have hfl : ins.flatMap Item.cells = (ins.take m).flatMap Item.cells ++ (ins.drop m).flatMap Item.cells := by
              rw [← List.flatMap_append, List.take_append_drop]
            obtain ⟨d, hd⟩ : ∃ d : Nat, (ins.drop m).length = d := ⟨_, rfl⟩
            have hmd : m + d = ins.length := by rw [← hd, List.length_drop]; omega
            have hil : m ≤ 100 := by omega
            have hdl : d ≤ 100 := by omega
            rw [hd] at hclr
            have HO := Lib.hid hO
            have HH := Lib.hid (And.intro hik (And.intro hmd hfl))
            clear hO hpick hlen hik hm hfl hd hmd
            go_wp2_with fail
            refine hclr.mono ?_
            rintro e w3 ⟨v3, rfl, hs3, ho3, ht3⟩
            have hon3 : OnlyIn [] w w3 := HO.out.on.then ht3 (by have := HO.out.lb; simp; omega)
            have hso := HO.out.so.only ht3 (fun g hg hmem => by
              simp only [List.mem_cons, List.not_mem_nil, or_false] at hmem
              subst hmem
              exact HO.out.nob hg)
            have hbs := hon3.size
            obtain ⟨A3, c3, rfl, hc3⟩ := hs3.val
            have hrd := Rd.of_sl hs3
            have HT := Lib.hid (And.intro ho3 ht3)
            clear ho3 ht3 hon3 q0
            go_wp2_with (at_builtin; refine wpList_append_sl rfl _ _ 42 rfl w.heap.size 30 i0 _ 4 32 Try.underlying42 hi0 hz0 hz1 hz2 rfl (by decide) (.slice A2 m c2) m _ rfl hso _ d _ rfl hrd (by intro u hu; obtain ⟨y, -, hy⟩ := List.mem_flatMap.1 hu; simp only [Item.cells, List.mem_cons, List.not_mem_nil, or_false] at hy; rcases hy with rfl | rfl | rfl | rfl <;> rfl) (by simp only [maxLen]; omega) (by omega) (by omega) ?_; intro v' w4 hs' hg' hat')
            go_meet
            refine ⟨ins.length, ins, by have := HH.out.1; omega, HO.out.out (Nat.le_refl _) (by have := HT.out.1; rwa [List.drop_of_length_le (Nat.le_refl _)]) HT.out.2 ?_ hg' hat'⟩
            have h9 := HH.out.2
            rw [List.take_of_length_le (Nat.le_refl _), h9.2, ← h9.1]
            exact hs'
      case rest =>
        clear hO hpick hlen hm hc1 hc2 q0 hp0 hp1
        obtain ⟨m', ins', hi', hO'⟩ := hcut
        rename World => wx
        obtain ⟨B1, d1, rfl, hd1⟩ := hO'.si.val
        obtain ⟨B2, d2, rfl, hd2⟩ := hO'.so.val
        have hm' := hO'.hm
        have hl1 : (ins'.take m').length = m' := by rw [List.length_take]; omega
        have hl2 : (ins'.drop m').length = ins'.length - m' := by rw [List.length_drop]
        have hob := hO'.ob
        have hln := hob.len
        have r1 := Rd.of_sl hO'.so
        have r2 := (Rd.of_sl hO'.si).take hm'
        have e1 : (ins'.flatMap Item.cells).take (m' * 4) = (ins'.take m').flatMap Item.cells := flat_take Item.len _ hm'
        have e2 : (ins'.flatMap Item.cells).drop (m' * 4) = (ins'.drop m').flatMap Item.cells := flat_drop Item.len _ hm'
        rw [e1] at r2
        have hS1 : ∀ W, OnlyIn [] wx W → Calls Try.prog 25 #[.slice B2 m' d2, .slice B1 m' d1] W fun e w' => e = .returned (.bool true) ∧ ∃ q, w' = W.drewN q := fun W hW =>
          SameItems_same W _ _ (ins'.take m') (by rw [hl1]; exact r1.cells fun p u hp => hW.cell hp (by simp)) (by rw [hl1]; exact r2.cells fun p u hp => hW.cell hp (by simp)) (by omega)
        obtain ⟨q, hq⟩ : ∃ q, ins'.length - m' = q := ⟨_, rfl⟩
        have hqN : q ≤ N := by rw [hl2, hq] at hln; exact hln
        have hmq : m' + q = ins'.length := by omega
        rw [hq] at hl2
        have hS2 : ∀ W v, OnlyIn [] wx W → Rd W 4 v q ((ins'.drop m').flatMap Item.cells) → Calls Try.prog 25 #[v, .slice (if d1 = m' then B1 else Option.map (fun x => x.add (m' * 4)) B1) q (d1 - m')] W fun e w' => e = .returned (.bool true) ∧ ∃ q, w' = W.drewN q := fun W v hW hv => by
          have h3 := (Rd.of_sl hO'.si).drop (m := m') (A' := if d1 = m' then B1 else Option.map (fun x => x.add (m' * 4)) B1) hm' (fun hlt => by rw [if_neg (by omega)])
          rw [e2, hq] at h3
          exact SameItems_same W _ _ (ins'.drop m') (by rw [hl2]; exact hv) (by rw [hl2]; exact h3.cells fun p u hp => hW.cell hp (by simp)) (by omega)
        have hAl : ∀ W, OnlyIn [] wx W → Calls Try.prog 29 #[.pointer (some ⟨b, 0, none⟩)] W fun e w' => ∃ v, e = .returned v ∧ Rd w' 4 v q ((ins'.drop m').flatMap Item.cells) ∧ (∃ A c, v = .slice A q c) ∧ OnlyIn [] W w' := fun W hW =>
          (All_any W b r N ins'.length _ (hob.only hW (by simp) (by simp))).mono (by
            rintro e w4 ⟨v4, rfl, hs4, ht4⟩
            obtain ⟨A4, c4, rfl, hc4⟩ := hs4.val
            have h5 := Rd.of_sl hs4
            rw [hl2] at h5 ⊢
            exact ⟨_, rfl, h5, ⟨_, _, rfl⟩, ht4⟩)
        have hLn : ∀ W, OnlyIn [] wx W → Calls Try.prog 17 #[.pointer (some ⟨b, 0, none⟩)] W fun e w' => e = .returned (.int .i64 (q : Int)) ∧ ∃ k, w' = W.drewN k := fun W hW => by
          have := Len_any W (hob.only hW (by simp) (by simp))
          rwa [hl2] at this
        have hRo : ∀ W, OnlyIn [] wx W → Calls Try.prog 30 #[.pointer (some ⟨b, 0, none⟩)] W fun e w' => e = .returned (.int .i64 ((N : Int) - (q : Int))) ∧ ∃ k, w' = W.drewN k := fun W hW => by
          have := Room_any W (hob.only hW (by simp) (by simp))
          rw [hl2, show ((N - q : Nat) : Int) = (N : Int) - (q : Int) by omega] at this
          exact this
        have hEv : ∀ W, OnlyIn [] wx W → Calls Try.prog 20 #[.pointer (some ⟨b, 0, none⟩)] W fun e w' => e = .returned (.int .i64 (ins'.length : Int)) ∧ W = w' := fun W hW => Ever_any W (hob.only hW (by simp) (by simp))
        have dl : decide (ins'.length < m') = false := by simp; omega
        have hsum : (q : Int) + ((N : Int) - (q : Int)) = (N : Int) := by omega
        have HO' := Lib.hid (And.intro hi' hO')
        clear hl1 hl2 e1 e2 r1 r2 hob hO' hln hmq hi'
        have tok : True := trivial
        have hwN : IntKind.i64.wrap (N : Int) = (N : Int) := by rw [IntKind.wrap_i64]; omega
        have hbN : ((N : Int) != (N : Int)) = false := by simp
        have n1 : (0 : Int) ≤ (m' : Int) := by omega
        have n2 : (m' : Int) ≤ (ins'.length : Int) := by omega
        have n3 : (m' : Int) ≤ (d1 : Int) := by omega
        have n4 : (ins'.length : Int) ≤ (d1 : Int) := by omega
        have n5 : (q : Int) ≤ 12 := by omega
        generalize (ins'.drop m').flatMap Item.cells = xs at hS2 hAl
        obtain ⟨n, hn⟩ : ∃ n, ins'.length = n := ⟨_, rfl⟩
        rw [hn] at hEv hq dl n2 n4 hm' hd1
        rw [hn]
        have HN' := Lib.hid hn
        clear hn hm' hd1 hd2
        go_wp2_with fail
        go_region_held3 (fun W => OnlyIn [] wx W) ((repeat (first | (with_reducible assumption) | (with_reducible exact OnlyIn.refl _ _) | (with_reducible refine OnlyIn.setCell ?_ (by first | simp | (simp; omega)) _) | (with_reducible refine OnlyIn.drewN ?_ _) | (with_reducible refine OnlyIn.drew ?_) | (with_reducible refine OnlyIn.alloc ?_ _)))) ((first | (go_at_call 25; have _t := tok; with_reducible refine (hS1 _ (by (repeat (first | (with_reducible assumption) | (with_reducible exact OnlyIn.refl _ _) | (with_reducible refine OnlyIn.setCell ?_ (by first | simp | (simp; omega)) _) | (with_reducible refine OnlyIn.drewN ?_ _) | (with_reducible refine OnlyIn.drew ?_) | (with_reducible refine OnlyIn.alloc ?_ _))))).mono ?_; rintro e w3 ⟨rfl, q3, rfl⟩; clear tok) | (go_at_call 29; with_reducible refine (hAl _ (by (repeat (first | (with_reducible assumption) | (with_reducible exact OnlyIn.refl _ _) | (with_reducible refine OnlyIn.setCell ?_ (by first | simp | (simp; omega)) _) | (with_reducible refine OnlyIn.drewN ?_ _) | (with_reducible refine OnlyIn.drew ?_) | (with_reducible refine OnlyIn.alloc ?_ _))))).mono ?_; rintro e w4 ⟨v4, rfl, hr4, ⟨A4, c4, rfl⟩, ht4⟩; have ht5 : OnlyIn [] wx w4 := OnlyIn.trans (by (repeat (first | (with_reducible assumption) | (with_reducible exact OnlyIn.refl _ _) | (with_reducible refine OnlyIn.setCell ?_ (by first | simp | (simp; omega)) _) | (with_reducible refine OnlyIn.drewN ?_ _) | (with_reducible refine OnlyIn.drew ?_) | (with_reducible refine OnlyIn.alloc ?_ _)))) ht4; clear ht4; dsimp only) | (go_at_call 25; with_reducible refine (hS2 _ _ (by (repeat (first | (with_reducible assumption) | (with_reducible exact OnlyIn.refl _ _) | (with_reducible refine OnlyIn.setCell ?_ (by first | simp | (simp; omega)) _) | (with_reducible refine OnlyIn.drewN ?_ _) | (with_reducible refine OnlyIn.drew ?_) | (with_reducible refine OnlyIn.alloc ?_ _)))) hr4).mono ?_; rintro e w5 ⟨rfl, q5, rfl⟩; dsimp only) | (go_at_call 17; with_reducible refine (hLn _ (by (repeat (first | (with_reducible assumption) | (with_reducible exact OnlyIn.refl _ _) | (with_reducible refine OnlyIn.setCell ?_ (by first | simp | (simp; omega)) _) | (with_reducible refine OnlyIn.drewN ?_ _) | (with_reducible refine OnlyIn.drew ?_) | (with_reducible refine OnlyIn.alloc ?_ _))))).mono ?_; rintro e w6 ⟨rfl, q6, rfl⟩; dsimp only) | (go_at_call 30; with_reducible refine (hRo _ (by (repeat (first | (with_reducible assumption) | (with_reducible exact OnlyIn.refl _ _) | (with_reducible refine OnlyIn.setCell ?_ (by first | simp | (simp; omega)) _) | (with_reducible refine OnlyIn.drewN ?_ _) | (with_reducible refine OnlyIn.drew ?_) | (with_reducible refine OnlyIn.alloc ?_ _))))).mono ?_; rintro e w7 ⟨rfl, q7, rfl⟩; dsimp only) | (go_at_call 20; with_reducible refine (hEv _ (by (repeat (first | (with_reducible assumption) | (with_reducible exact OnlyIn.refl _ _) | (with_reducible refine OnlyIn.setCell ?_ (by first | simp | (simp; omega)) _) | (with_reducible refine OnlyIn.drewN ?_ _) | (with_reducible refine OnlyIn.drew ?_) | (with_reducible refine OnlyIn.alloc ?_ _))))).mono ?_; rintro e w8 ⟨rfl, rfl⟩; dsimp only)))
        go_wp2_with fail
        go_roundw
        case rel =>
          have hO9 := HO'.out
          rw [HN'.out] at hO9
          refine ⟨k + 1, m', ins', by omega, by go_num, by rw [HN'.out]; exact hO9.1, hO9.2.only0 ?_⟩
          assumption
        case measure => simp [intOf]; omega
    · obtain rfl : k = acts.length := by omega
      go_wp2_with fail
      go_ret
      exact ⟨rfl, hO.on⟩

set_option maxRecDepth 100000 in
theorem Order_long (w : World) (a0 : Int) (g0 : -9223372036854775808 ≤ a0 ∧ a0 ≤ 9223372036854775807) (A : Option Addr) (c n : Nat) (hn : 100 < n) :
    Calls Try.prog 7 #[.int .i64 a0, .slice A n c] w fun e w' => e = .returned (.bool true) ∧ OnlyIn [] w w' := by
  obtain ⟨h0, h0'⟩ := g0
  obtain ⟨N, hN⟩ : ∃ N : Nat, a0 % 12 = (N : Int) - 1 := ⟨(a0 % 12 + 1).toNat, by omega⟩
  have hN1 : 1 ≤ N := by omega
  have hN2 : N ≤ 12 := by omega
  have HN := Lib.hid hN
  clear hN
  have hs : (1 : Int) + ((N : Int) - 1) = (N : Int) := by omega
  go_enter Try.func7, Try.ntmps7
  go_wp2_with fail
  refine (Known_walk w).mono ?_
  rintro e w1 ⟨rfl, ht1⟩
  go_wp2_with fail
  refine (Pick_any a0 12 w1 (by omega) (by omega) h0 h0').mono ?_
  rintro e w' ⟨rfl, rfl⟩
  rw [HN.out]
  go_wp2_with fail
  refine (New_ok w1 N hN1 (by omega)).mono ?_
  rintro e w2 ⟨rfl, ho2, ht2⟩
  go_wp2_with fail
  go_ret
  exact ⟨rfl, ht1.trans ht2⟩

set_option maxRecDepth 100000 in
theorem Order_walk {w : World} (a0 : Int) (g0 : -9223372036854775808 ≤ a0 ∧ a0 ≤ 9223372036854775807) (x : Value × List Act24) (y : Rd w 5 x.1 x.2.length (x.2.flatMap Act24.cells) ∧ (∀ a ∈ x.2, a.ok) ∧ x.2.length ≤ maxLen) :
    Calls Try.prog 7 #[.int .i64 a0, x.1] w fun e w' => e = .returned (.bool true) ∧ OnlyIn [] w w' := by
  obtain ⟨v, acts⟩ := x
  obtain ⟨⟨-, A, c, hv, -, hA⟩, hok, -⟩ := y
  simp only at hv hA hok ⊢
  subst hv
  by_cases hac : acts.length ≤ 100
  · exact Order_ok w a0 g0 A c acts hA hok hac
  · exact Order_long w a0 g0 A c acts.length (by omega)
end Go.Proofs.Ytcgbafdagckgcaa
