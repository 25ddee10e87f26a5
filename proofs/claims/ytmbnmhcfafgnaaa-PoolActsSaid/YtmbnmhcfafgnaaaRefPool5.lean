/-
  Law 23's reference: New.
-/
import Derived.Test.YtmbnmhcfafgnaaaRefPool4
import Derived.Test.YtmbnmhcfafgnaaaPool7
namespace Go.Proofs.Ytmbnmhcfafgnaaa
open Go.RowKit Go.Mine
theorem Try.infoRF : (Try.prog.info? 99).map (fun i => (i.zero, i.size, i.bytes)) = some (some (.agg #[.int .i64 0, .int .i64 0, .slice none 0 0]), 3, 40) := by kernel_rfl
def emptyR (N : Nat) : List RRow := List.replicate N (Fr.empty, none)
theorem emptyR_fs (N : Nat) : rFs (emptyR N) = emptyFs N := by
  unfold rFs emptyR emptyFs
  rw [List.map_replicate]
theorem emptyR_at {N i : Nat} {f : Fr} {bo : Option Nat} (h : (emptyR N)[i]? = some (f, bo)) : f = Fr.empty ∧ bo = none := by
  unfold emptyR at h
  rw [List.getElem?_replicate] at h
  split at h
  · injection h with h
    injection h with h1 h2
    exact ⟨h1.symm, h2.symm⟩
  · cases h
theorem mk_rf (n : Nat) (hn : n ≤ 1000000) (W : World) : (Instr.makeSlice 94 (.int .i64 (n : Int)) (.int .i64 (n : Int))).run Try.prog W = .ok (.slice (some ⟨W.heap.size, 0, none⟩) n n) (W.alloc (.cells ((emptyR n).flatMap rcells).toArray 99)) := by
  obtain ⟨i0, hi0, hz0, hz1, hz2⟩ := info_parts Try.infoRF
  have hmk := run_make_n (P := Try.prog) 94 99 i0 (.agg #[.int .i64 0, .int .i64 0, .slice none 0 0]) Try.underlying94 hi0 hz0 .i64 .i64 n (by rw [hz2]; omega) (by omega) W
  have hmf : madeCells (Value.agg #[.int .i64 0, .int .i64 0, .slice none 0 0]).cells (n * i0.size) = ((emptyR n).flatMap rcells).toArray := by
    rw [hz1]
    apply Array.ext'
    apply List.ext_getElem?
    intro j
    rw [flat_get_div rcells_len (by omega)]
    unfold emptyR
    rw [List.getElem?_replicate]
    have hre : rcells (Fr.empty, none) = [.int .i64 0, .int .i64 0, .slice none 0 0] := rfl
    have hm : j % 3 = 0 ∨ j % 3 = 1 ∨ j % 3 = 2 := by omega
    by_cases hj : j < n * 3
    · rw [if_pos (by omega)]
      rcases hm with e | e | e <;> (show _ = (rcells (Fr.empty, none))[j % 3]?; rw [hre]; simp [madeCells, Value.cells, hj, e])
    · rw [if_neg (by omega)]
      simp [madeCells, Value.cells, hj]
  rw [hmf] at hmk
  exact hmk

set_option maxRecDepth 100000 in
set_option maxHeartbeats 2000000 in
theorem rNew_bad (w : World) (n q : Int) (h : ¬ (1 ≤ n ∧ n ≤ 64 ∧ 1 ≤ q ∧ q ≤ n)) : Calls Try.prog 46 #[.int .i64 n, .int .i64 q] w fun e w' => e = .returned (.tuple #[.pointer none, .int .i64 3]) ∧ w = w' := by
  by_cases h1 : n < 1
  · have d1 : decide (n < 1) = true := decide_eq_true h1
    go_enter Try.func46, Try.ntmps46
    go_wp2
    go_ret2
    exact ⟨rfl, rfl⟩
  have d1 : decide (n < 1) = false := decide_eq_false h1
  by_cases h2 : 64 < n
  · have d2 : decide (64 < n) = true := decide_eq_true h2
    go_enter Try.func46, Try.ntmps46
    go_wp2
    go_ret2
    exact ⟨rfl, rfl⟩
  have d2 : decide (64 < n) = false := decide_eq_false h2
  by_cases h3 : q < 1
  · have d3 : decide (q < 1) = true := decide_eq_true h3
    go_enter Try.func46, Try.ntmps46
    go_wp2
    go_ret2
    exact ⟨rfl, rfl⟩
  have d3 : decide (q < 1) = false := decide_eq_false h3
  have d4 : decide (n < q) = true := decide_eq_true (by omega)
  go_enter Try.func46, Try.ntmps46
  go_wp2
  go_ret2
  exact ⟨rfl, rfl⟩

set_option maxRecDepth 100000 in
set_option maxHeartbeats 2000000 in
theorem rNew_ok (w : World) (N : Nat) (q : Int) (h : 1 ≤ N ∧ N ≤ 64 ∧ 1 ≤ q ∧ q ≤ N) : Calls Try.prog 46 #[.int .i64 (N : Int), .int .i64 q] w fun e w' => ∃ b lb R, e = .returned (.tuple #[.pointer (some ⟨b, 0, none⟩), .int .i64 0]) ∧ RfAt w' w.heap.size b lb N q R ∧ rFs R = emptyFs N ∧ OnlyIn [] w w' := by
  have d1 : decide ((N : Int) < 1) = false := decide_eq_false (by omega)
  have d1' : decide (N < 1) = false := decide_eq_false (by omega)
  have d2 : decide (64 < (N : Int)) = false := decide_eq_false (by omega)
  have d2' : decide (64 < N) = false := decide_eq_false (by omega)
  have d3 : decide (q < 1) = false := decide_eq_false (by omega)
  have d4 : decide ((N : Int) < q) = false := decide_eq_false (by omega)
  have hmk := mk_rf N (by omega) w
  have HN := Lib.hid h
  obtain ⟨Z, hZ⟩ : ∃ Z, ((emptyR N).flatMap rcells).toArray = Z := ⟨_, rfl⟩
  rw [hZ] at hmk
  have HZ := Lib.hid hZ
  clear h hZ
  go_enter Try.func46, Try.ntmps46
  go_wp2_with fail
  go_ret2
  have hA := (Blk.new w 99 ((emptyR N).flatMap rcells)).alloc (.cells #[.slice (some ⟨w.heap.size, 0, none⟩) N N, .int .i64 q] 96)
  have hB := Blk.new (w.alloc (.cells ((emptyR N).flatMap rcells).toArray 99)) 96 [.slice (some ⟨w.heap.size, 0, none⟩) N N, .int .i64 q]
  rw [HZ.out] at hA hB
  simp only [World.size_alloc] at hB
  refine ⟨_, w.heap.size, emptyR N, rfl, ⟨hB, hA, by unfold emptyR; exact List.length_replicate, fun i f bo hi => ?_, fun i f x hi => ?_, fun i j f g x hi hj => ?_, ⟨by omega, Nat.le_refl _⟩, ⟨HN.out.1, HN.out.2.1⟩⟩, emptyR_fs N, by (repeat (first | (with_reducible assumption) | (with_reducible exact OnlyIn.refl _ _) | (with_reducible refine OnlyIn.setCell ?_ (by first | simp | (simp; omega)) _) | (with_reducible refine OnlyIn.drewN ?_ _) | (with_reducible refine OnlyIn.drew ?_) | (with_reducible refine OnlyIn.alloc ?_ _)))⟩
  · obtain ⟨rfl, rfl⟩ := emptyR_at hi
    exact ⟨List.length_replicate, fun _ => rfl⟩
  · obtain ⟨-, e⟩ := emptyR_at hi
    cases e
  · obtain ⟨-, e⟩ := emptyR_at hi
    cases e
end Go.Proofs.Ytmbnmhcfafgnaaa
