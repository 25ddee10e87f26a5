/-
  Package kind: table, all.
-/
import Derived.Test.YtheihohojmcbiaaKindSpec
import Derived.Test.YtheihohojmcbiaaOwn
import Derived.Test.YtheihohojmcbiaaRange
import Derived.Deep.WholeRow
namespace Go.Mine
theorem newest (w : World) (c : Array Value) (t : TypeId) : (w.alloc (.cells c t)).heap[w.heap.size]? = some (.cells c t (0, 0)) := by
  show (w.heap.push _)[w.heap.size]? = _
  simp
theorem wpList_built {P : Program} {ops : Array Oper} {rest : List Oper} {o : Oper} {a : Act} {w : World} {Q : Exit → Act → World → Prop} (hg : o.guard = none) (t : TypeId) (parts : Array (Nat × Operand)) (ho : o.op = .build t parts)
    (v : Array Value) (hb : P.built t (parts.map fun (i, x) => (i, a.eval x)).toList = some v) (h : wpList P ops Q rest (a.put o.dst (.agg v)) w) : wpList P ops Q (o :: rest) a w :=
  wpList_build hg t parts ho (by rw [hb]; rfl) (by rw [hb]; exact h)
end Go.Mine
namespace Go.Proofs.Ytheihohojmcbiaa
open Go.RowKit Go.Mine Go.Shelf

attribute [local go_sem] Oper.semAt_some

set_option maxRecDepth 100000 in
set_option maxHeartbeats 4000000 in
theorem ktable_any (w : World) : Calls Try.prog 75 #[] w fun e w' => e = .returned (.agg ktable.toArray) ∧ OnlyIn [] w w' := by
  go_enter Try.func75, Try.ntmps75
  go_wp2_with (refine wpList_built rfl 102 _ rfl ktable.toArray (by kernel_rfl) ?_; generalize hX : wpList _ _ _ _ _ _ = X)
  subst hX
  refine wpList_store_row rfl _ _ _ rfl w.heap.size ktable.toArray rfl rfl 102 _ (newest w _ _) (by kernel_rfl) (by kernel_rfl) (by kernel_rfl) ?_
  rw [World.setRow_alloc_new]
  go_wp2_with fail
  refine bodyPost_ret (results_one_cell rfl _ rfl (loadVar_blk (Blk.new w 102 ktable) Try.underlying102 rfl (by kernel_rfl))) rfl ⟨rfl, (OnlyIn.refl _ _).alloc _⟩

set_option maxRecDepth 100000 in
theorem kall_any (w : World) : Calls Try.prog 54 #[] w fun e w' => e = .returned (.func (.func 74) #[] #[]) ∧ w = w' := by
  go_enter Try.func54, Try.ntmps54
  go_wp2_with fail
  go_ret
  exact ⟨rfl, rfl⟩

/-- A row, as it is handed on. -/
abbrev krowV (k : Nat) : Value := .agg #[.string (str (kc k)), .bool (kpart k 0), .bool (kpart k 1), .bool (kpart k 2), .bool (kpart k 3), .bool (kpart k 4)]

theorem kidx (W : World) (k : Nat) (hk : k < 10) : (Instr.index 102 (.agg ktable.toArray) (.int .i64 (k : Int))).run Try.prog W = .ok (krowV k) W := by
  rcases (by omega : k = 0 ∨ k = 1 ∨ k = 2 ∨ k = 3 ∨ k = 4 ∨ k = 5 ∨ k = 6 ∨ k = 7 ∨ k = 8 ∨ k = 9) with rfl | rfl | rfl | rfl | rfl | rfl | rfl | rfl | rfl | rfl <;> kernel_rfl

set_option maxRecDepth 100000 in
/-- The iterator: for every body that keeps what C says. -/
theorem kall1_any (l : Nat) (C Jx : Nat → World → Prop) (hS : ∀ k W W', OnlyIn [] W W' → C k W → C k W')
    (hY : ∀ k W, k < 10 → C k W → YieldAt Fence.wide 0 Try.prog l #[.int .i64 ((k : Int) + 1), krowV k] W fun e W' => (e = .returned (.bool true) ∧ C (k + 1) W') ∨ (e = .returned (.bool false) ∧ Jx k W'))
    (W : World) (hC : C 0 W) :
    Calls Try.prog 74 #[.func (.yield l) #[] #[]] W fun e W' => (∃ v, e = .returned v) ∧ (C 10 W' ∨ ∃ k, k < 10 ∧ Jx k W') := by
  have HS := Lib.hid hS
  have HY := Lib.hid hY
  have htb := ktable_any W
  clear hS hY
  (refine (callsIn_wide (n := 0)).1 ?_; refine callsIn_of_wp Try.func74 rfl trivial ?_ rfl; simp only [Try.ntmps74, List.size_toArray, List.length_cons, List.length_nil, Nat.reduceAdd, Nat.reduceSub, Array.replicate_succ, Array.replicate_zero, List.push_toArray, List.append_toArray, List.nil_append, List.cons_append])
  gi_wp2_with fail
  refine ⟨trivial, rfl, callsIn_wide.2 (htb.mono ?_)⟩
  rintro e w1 ⟨rfl, ht1⟩
  have hC1 := HS.out 0 W w1 ht1 hC
  clear hC ht1 htb
  gi_wp2_with fail
  gi_loopw [2, 3, 5] (fun _ _ i wr => ∃ k : Nat, k ≤ 10 ∧ i = .int .i64 (k : Int) ∧ C k wr) (fun _ _ i _ => 10 - (intOf i).toNat)
  case atStart => exact ⟨0, by omega, rfl, hC1⟩
  case round =>
    obtain ⟨k, hk, rfl, hCk⟩ := hrel
    by_cases hlt : k < 10
    · have hidx := kidx wr k hlt
      have hC2 := HS.out k wr _ ((OnlyIn.refl [] wr).alloc (.cells #[.string (str (kc k)), .bool (kpart k 0), .bool (kpart k 1), .bool (kpart k 2), .bool (kpart k 3), .bool (kpart k 4)] 69)) hCk
      obtain ⟨fn, tmps, assign, body, hy, hRo⟩ := HY.out k _ hlt hC2
      clear hCk hC2
      gi_wp2_with fail
      refine ⟨rfl, hRo.mono ?_⟩
      rintro e w2 (⟨rfl, hC3⟩ | ⟨rfl, hJ⟩)
      · clear hRo hy
        gi_wp2_with fail
        go_roundw
        case rel => exact ⟨k + 1, by omega, by go_num, hC3⟩
        case measure => simp [intOf]; omega
      · clear hRo hy
        gi_wp2_with fail
        refine bodyPost_ret (results_none rfl _ _ _) rfl ?_
        exact ⟨⟨_, rfl⟩, .inr ⟨k, hlt, hJ⟩⟩
    · obtain rfl : k = 10 := by omega
      gi_wp2_with fail
      go_end0
      exact ⟨⟨_, rfl⟩, .inl hCk⟩
end Go.Proofs.Ytheihohojmcbiaa
