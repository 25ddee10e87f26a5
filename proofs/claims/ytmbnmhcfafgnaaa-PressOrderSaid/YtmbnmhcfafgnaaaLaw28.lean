/-
  Law 28: of, victim, plans, awake, PressKnown.
-/
import Derived.Test.YtmbnmhcfafgnaaaPressFns3
import Derived.Test.YtmbnmhcfafgnaaaKitCopy
namespace Go.Mine
open Go.RowKit
/-- Numbers and frames in turn. -/
def pairsTo (l : List Int) : Nat → List Holder
  | 0 => []
  | k + 1 => pairsTo l k ++ [⟨l.getD (2 * k) 0, l.getD (2 * k + 1) 0⟩]
theorem pairsTo_length (l : List Int) : ∀ k, (pairsTo l k).length = k
  | 0 => rfl
  | k + 1 => by rw [pairsTo, List.length_append, pairsTo_length l k]; rfl
theorem vict_eq {l v : List Holder} (hO : OkH l) (hp : v.Perm (l.filter fun h => decide (0 < h.fr))) (hs : v.Pairwise fun a b => ltH a b = true) : vict l = v :=
  ((vict_perm l).trans hp.symm).eq_of_pairwise (fun a b _ _ h1 h2 => by have := weakH.asymm _ _ h1; rw [h2] at this; cases this) (vict_sorted hO) hs
def headV : List Holder → Int × Int
  | [] => (0, 16)
  | h :: _ => (h.id, 0)
theorem victim_lit {l v : List Holder} (hO : OkH l) (hv : vict l = v) : victimF l = headV v := by
  subst hv
  unfold victimF
  rw [if_pos hO]
  cases vict l <;> rfl
theorem victim_bad {l : List Holder} (hO : ¬ OkH l) : victimF l = (0, 2) := by unfold victimF; rw [if_neg hO]
theorem plan_lit {l v : List Holder} {free want : Int} (h : PlanOk l free want) (hv : vict l = v) : planR l free want = ((planF v free want).1.map (·.id), (planF v free want).2, 0) := by unfold planR; rw [if_pos h, hv]
theorem plan_bad {l : List Holder} {free want : Int} (h : ¬ PlanOk l free want) : planR l free want = ([], 0, 2) := by unfold planR; rw [if_neg h]
theorem vi3 : vict [⟨3, 2⟩, ⟨1, 5⟩, ⟨2, 5⟩] = [⟨1, 5⟩, ⟨2, 5⟩, ⟨3, 2⟩] := vict_eq (by decide) (by decide) (by decide)
theorem vi2 : vict [⟨3, 2⟩, ⟨1, 5⟩] = [⟨1, 5⟩, ⟨3, 2⟩] := vict_eq (by decide) (by decide) (by decide)
theorem vi1 : vict [⟨1, 0⟩] = [] := vict_eq (by decide) (by decide) (by decide)
theorem vi0 : vict [] = [] := vict_eq (by decide) (by decide) (by decide)
end Go.Mine
namespace Go.Proofs.Ytmbnmhcfafgnaaa
open Go.RowKit Go.Mine

set_option maxRecDepth 100000 in
set_option maxHeartbeats 2000000 in
theorem of_any (W : World) (A : Option Addr) (n c : Nat) (ints : List Int) (h : Rd W 1 (.slice A n c) n (intCells ints)) (hn : ints.length = n) (hnc : n ≤ c) (hb : n ≤ 1000) :
    Calls Try.prog 27 #[.slice A n c] W fun e w' => ∃ B d, e = .returned (.slice B (n / 2) d) ∧ n / 2 ≤ d ∧ Sl w' W.heap.size 41 2 (.slice B (n / 2) d) (n / 2) (hcs (pairsTo ints (n / 2))) ∧ OnlyIn [] W w' := by
  obtain ⟨i0, hi0, hz0, hz1, hz2⟩ := info_parts Try.infoHold
  have HR := Lib.hid (And.intro h hn)
  clear h hn
  go_enter Try.func27, Try.ntmps27
  go_wp2_with fail
  go_loopw [3, 4] (fun u i wr => ∃ (k : Nat) (B : Option Addr) (d : Nat), k ≤ n / 2 ∧ i = .int .i64 ((2 * k : Nat) : Int) ∧ u = .slice B k d ∧ k ≤ d ∧ Hid (Sl wr W.heap.size 41 2 (.slice B k d) k (hcs (pairsTo ints k)) ∧ OnlyIn [] W wr)) (fun _ i _ => n + 2 - (intOf i).toNat)
  case atStart => exact ⟨0, none, 0, by omega, rfl, rfl, by omega, Lib.hid ⟨Sl.nil _ _ _ _, OnlyIn.refl _ _⟩⟩
  case round =>
    obtain ⟨k, B, d, hk, rfl, rfl, hkd, HK⟩ := hrel
    obtain ⟨t, ht⟩ : ∃ t, 2 * k = t := ⟨_, rfl⟩
    rw [ht]
    have hw1 : IntKind.i64.wrap ((t : Int) + 1) = (t : Int) + 1 := by rw [IntKind.wrap_i64]; omega
    have hw2 : IntKind.i64.wrap ((t : Int) + 2) = (t : Int) + 2 := by rw [IntKind.wrap_i64]; omega
    by_cases hlt : t + 1 < n
    · have hd : decide ((t : Int) + 1 < (n : Int)) = true := decide_eq_true (by omega)
      obtain ⟨g, off, rfl, a0⟩ := rd_int (HR.out.1.cells (w' := wr) fun p u hp => HK.out.2.cell hp (by simp)) HR.out.2 (k := t) (by omega)
      obtain ⟨g', off', he, a1⟩ := rd_int (HR.out.1.cells (w' := wr) fun p u hp => HK.out.2.cell hp (by simp)) HR.out.2 (k := t + 1) (by omega)
      injection he with he
      injection he with e1 e2 _
      subst e1 e2
      have hpos : (0 : Int) ≤ (t : Int) + 1 := by omega
      have hst : pairsTo ints (k + 1) = pairsTo ints k ++ [⟨ints.getD (2 * k) 0, ints.getD (2 * k + 1) 0⟩] := rfl
      rw [ht] at hst
      have htl : t < ints.length := by rw [HR.out.2]; omega
      have htl1 : t + 1 < ints.length := by rw [HR.out.2]; omega
      rw [show ints.getD t 0 = ints[t]'htl by rw [List.getD_eq_getElem?_getD, List.getElem?_eq_getElem htl]; rfl, show ints.getD (t + 1) 0 = ints[t + 1]'htl1 by rw [List.getD_eq_getElem?_getD, List.getElem?_eq_getElem htl1]; rfl] at hst
      generalize ints[t]'htl = x at a0 hst
      generalize ints[t + 1]'htl1 = y at a1 hst
      have htn : t < n := by omega
      have hint : (t : Int) + 1 < (n : Int) := by omega
      have HS := Lib.hid (And.intro hst ht)
      have hbs := HK.out.2.size
      clear hst ht htl htl1
      go_wp2_with fail
      go_region_law (refine step_append_sl rfl _ _ 22 rfl W.heap.size 41 i0 _ 2 16 Try.underlying22 hi0 hz0 hz1 hz2 rfl (by decide) (.slice B k d) k (hcs (pairsTo ints k)) rfl ((HK.out.1.alloc _).drew) (.slice (some ⟨wr.heap.size, 0, none⟩) 1 1) 1 (Holder.cells ⟨x, y⟩) rfl ((Rd.lit wr (Holder.cells ⟨x, y⟩) 41 1 rfl).drew) (by simp [Holder.cells, Value.oneCell']) (by simp only [maxLen]; omega) (by omega) (by simp; omega) ?_; intro v' w2 hs' hg' hat'; obtain ⟨A2, c2, rfl, hc2⟩ := hs'.val)
      all_goals
        go_wp2_with fail
        have hto := (((HK.out.2.alloc (.cells (Holder.cells ⟨x, y⟩).toArray 41)).drew).grown hg' (fun g hg => .inr (HK.out.1.own_lt g hg).1))
        go_roundw
        case rel => exact ⟨k + 1, A2, c2, by have := HS.out.2; omega, by rw [show 2 * (k + 1) = t + 2 by have := HS.out.2; omega]; go_num, rfl, hc2, Lib.hid ⟨by rw [HS.out.1, hcs_snoc]; exact hs', hto⟩⟩
        case measure => simp only [intOf]; simp [hw2]; have := HS.out.2; omega
    · have hd : decide ((t : Int) + 1 < (n : Int)) = false := decide_eq_false (by omega)
      have hkn : k = n / 2 := by omega
      subst hkn
      have HF := Lib.hid HK.out
      clear HK ht
      go_wp2_with fail
      go_ret
      exact ⟨B, d, rfl, hkd, HF.out.1, HF.out.2⟩

set_option maxRecDepth 100000 in
theorem victim28_yes (W : World) (A : Option Addr) (n c : Nat) (ints : List Int) (h : Rd W 1 (.slice A n c) n (intCells ints)) (hn : ints.length = n) (hnc : n ≤ c) (hb : n ≤ 1000) (want err : Int) (hy : victimF (pairsTo ints (n / 2)) = (want, err)) :
    Calls Try.prog 25 #[.int .i64 want, .int .i64 err, .slice A n c] W fun e w' => e = .returned (.bool true) ∧ OnlyIn [] W w' := by
  have hof := of_any W A n c ints h hn hnc hb
  obtain ⟨m, hm⟩ : ∃ m, n / 2 = m := ⟨_, rfl⟩
  rw [hm] at hof hy
  have hv := fun w1 (B : Option Addr) (d : Nat) (hs : Sl w1 W.heap.size 41 2 (.slice B m d) m (hcs (pairsTo ints m))) (hd : m ≤ d) => hVictim_any w1 B m d _ (Rd.of_sl hs) (pairsTo_length ints m) hd
  rw [hy] at hv
  simp only at hv
  have b1 : (want == want) = true := by simp
  have b2 : (err == err) = true := by simp
  clear hy h hn hm
  go_enter Try.func25, Try.ntmps25
  go_wp2_with (first | (go_at_call 27; refine hof.mono ?_; rintro e w1 ⟨B, d, rfl, hd, hs, ht⟩) | (go_at_call 14; refine (hv _ _ _ hs hd).mono ?_; rintro e w2 ⟨rfl, ht2⟩))
  go_ret
  exact ⟨rfl, ht.trans ht2⟩

set_option maxRecDepth 100000 in
theorem plans_yes (W : World) (A : Option Addr) (n c : Nat) (l : List Holder) (h : Rd W 2 (.slice A n c) n (hcs l)) (hn : l.length = n) (hnc : n ≤ c) (free want : Int) (u : Value) (outs : List Int) (hu : Rd W 1 u outs.length (intCells outs)) (then_ err : Int)
    (hy : planR l free want = (outs, then_, err)) :
    Calls Try.prog 26 #[.slice A n c, .int .i64 free, .int .i64 want, u, .int .i64 then_, .int .i64 err] W fun e w' => e = .returned (.bool true) ∧ OnlyIn [] W w' := by
  have hp := hPlan_any W A n c l h hn hnc free want
  unfold PlanAns at hp
  rw [hy] at hp
  simp only at hp
  have hol : outs.length ≤ 64 := by have := planR_ids_len (l := l) (free := free) (want := want); rw [hy] at this; exact this
  have hsi := fun w1 v (ho : OnlyIn [] W w1) (hs : Sl w1 W.heap.size 3 1 v outs.length (intCells outs)) => SameInts_any w1 v u outs outs (Rd.of_sl hs) (hu.cells fun p q hp => ho.cell hp (by simp)) (by omega) (by omega)
  rw [decide_eq_true rfl] at hsi
  obtain ⟨E, f, rfl⟩ : ∃ E f, u = .slice E outs.length f := by
    obtain ⟨-, E, f, rfl, -⟩ := hu; exact ⟨E, f, rfl⟩
  obtain ⟨m, hm⟩ : ∃ m, outs.length = m := ⟨_, rfl⟩
  rw [hm] at hp hsi ⊢
  have b1 : (then_ == then_) = true := by simp
  have b2 : (err == err) = true := by simp
  clear hy h hu hn hol hm
  go_enter Try.func26, Try.ntmps26
  go_wp2_with (first | (go_at_call 16; refine hp.mono ?_; rintro e w1 ⟨v, rfl, hs, ht⟩; obtain ⟨B, d, rfl, hd⟩ := hs.val) | (go_at_call 18; refine (hsi _ _ ht hs).mono ?_; rintro e w2 ⟨rfl, ht2⟩))
  go_ret
  exact ⟨rfl, ht.trans ht2⟩

set_option maxRecDepth 100000 in
theorem known28_v (W : World) (o : World) (ho : OnlyIn [] o W) (ints : List Int) (want err : Int) (hb : ints.length ≤ 1000) (hy : victimF (pairsTo ints (ints.length / 2)) = (want, err)) :
    Calls Try.prog 25 #[.int .i64 want, .int .i64 err, .slice (some ⟨W.heap.size, 0, none⟩) ints.length ints.length] (W.alloc (.cells (intCells ints).toArray 3)) fun e w' => e = .returned (.bool true) ∧ OnlyIn [] o w' :=
  (victim28_yes _ _ _ _ ints (Rd.lit (size := 1) W (intCells ints) 3 ints.length (by simp [intCells_length])) rfl (Nat.le_refl _) hb want err hy).mono fun _ _ ⟨he, ht⟩ => ⟨he, (ho.alloc _).trans ht⟩
set_option maxRecDepth 100000 in
theorem known28_of (W : World) (o : World) (ho : OnlyIn [] o W) (ints : List Int) (m : Nat) (hm : ints.length / 2 = m) (hb : ints.length ≤ 1000) :
    Calls Try.prog 27 #[.slice (some ⟨W.heap.size, 0, none⟩) ints.length ints.length] (W.alloc (.cells (intCells ints).toArray 3)) fun e w' => ∃ B d, e = .returned (.slice B m d) ∧ m ≤ d ∧ Rd w' 2 (.slice B m d) m (hcs (pairsTo ints m)) ∧ OnlyIn [] o w' := by
  subst hm
  exact (of_any _ _ _ _ ints (Rd.lit (size := 1) W (intCells ints) 3 ints.length (by simp [intCells_length])) rfl (Nat.le_refl _) hb).mono fun _ _ ⟨B, d, he, hd, hs, ht⟩ => ⟨B, d, he, hd, Rd.of_sl hs, (ho.alloc _).trans ht⟩

set_option maxRecDepth 100000 in
set_option maxHeartbeats 4000000 in
theorem awake28 (w : World) : Calls Try.prog 13 #[] w fun e w' => e = .returned (.bool true) ∧ OnlyIn [] w w' := by
  go_enter Try.func13, Try.ntmps13
  go_wp2_with fail
  refine (known28_v _ w (OnlyIn.refl _ _) [3, 2, 1, 5, 2, 5] 1 0 (by decide) (victim_lit (v := [⟨1, 5⟩, ⟨2, 5⟩, ⟨3, 2⟩]) (by decide) vi3)).mono ?_
  rintro e w1 ⟨rfl, o1⟩
  go_wp2_with fail
  refine (known28_v _ w o1 [0, 1] 0 2 (by decide) (victim_bad (by decide))).mono ?_
  rintro e w2 ⟨rfl, o2⟩
  clear o1
  go_wp2_with fail
  refine (known28_of _ w o2 [3, 2, 1, 5, 2, 5] 3 rfl (by decide)).mono ?_
  rintro e w3 ⟨B, d, rfl, hd, hr, o3⟩
  clear o2
  go_wp2_with fail
  refine (plans_yes _ B 3 d _ (hr.cells fun p u hp => ((OnlyIn.refl [] w3).alloc _).cell hp (by simp)) rfl hd 1 7 _ [1, 2] (Rd.lit (size := 1) w3 (intCells [1, 2]) 3 2 rfl) 11 0 ((plan_lit (v := [⟨1, 5⟩, ⟨2, 5⟩, ⟨3, 2⟩]) (by decide) vi3).trans (by decide))).mono ?_
  rintro e w4 ⟨rfl, t4⟩
  have o4 := (o3.alloc (.cells (intCells [1, 2]).toArray 3)).trans t4
  clear o3 t4 hr
  go_wp2_with fail
  refine (known28_of _ w o4 [3, 2, 1, 5] 2 rfl (by decide)).mono ?_
  rintro e w5 ⟨B2, d2, rfl, hd2, hr2, o5⟩
  clear o4
  have hh := hHeld_any w5 B2 2 d2 _ hr2 rfl hd2
  rw [show heldF (pairsTo [3, 2, 1, 5] 2) = 7 by decide] at hh
  clear hr2
  go_wp2_with fail
  refine hh.mono ?_
  rintro e w6 ⟨rfl, t6⟩
  go_wp2_with fail
  go_ret
  exact ⟨rfl, o5.trans t6⟩
end Go.Proofs.Ytmbnmhcfafgnaaa
