/-
  Package pool: free frames as a heap: its methods.
-/
import Derived.Test.YtmbnmhcfafgnaaaHeap
import Derived.Test.YtmbnmhcfafgnaaaInts
import Derived.Test.YtmbnmhcfafgnaaaRange
import Derived.Test.YtmbnmhcfafgnaaaOwn
import Derived.Test.YtmbnmhcfafgnaaaInv
import Derived.Deep.RegionLaw
import Derived.BigQuiet
import Derived.BigRegion
namespace Go.Mine
open Go.RowKit
def ltN (a b : Nat) : Bool := decide (a < b)
theorem weakN : Weak ltN where
  asymm := fun a b h => by simp only [ltN, decide_eq_true_eq, decide_eq_false_iff_not] at *; omega
  trans := fun a b c h1 h2 => by simp only [ltN, decide_eq_false_iff_not] at *; omega
/-- Numbers as cells. -/
def natCells (l : List Nat) : List Value := l.map fun (n : Nat) => Value.int .i64 (n : Int)
theorem natCells_length (l : List Nat) : (natCells l).length = l.length := by simp [natCells]
theorem natCells_get {l : List Nat} {i x : Nat} (h : l[i]? = some x) : (natCells l)[i]? = some (.int .i64 (x : Int)) := by simp [natCells, h]
theorem natCells_append (a b : List Nat) : natCells (a ++ b) = natCells a ++ natCells b := by simp [natCells]
theorem natCells_set (l : List Nat) (i x : Nat) : (natCells l).set i (.int .i64 (x : Int)) = natCells (l.set i x) := by simp [natCells, List.map_set]
theorem loadVar_slice_at {P : Program} {w : World} {b i : Nat} {t ty e : TypeId} {cs : List Value} {v : Value} (hb : Blk w b t cs) (hi : cs[i]? = some v) (hu : P.underlying ty = some (.slice e)) : (loadVar ty ⟨b, i, none⟩).run P w = .ok v w := by
  have hc := hb.cell hi
  simp [loadVar, isAgg, run_underlying hu, go_sem, hc]
end Go.Mine
namespace Go.Proofs.Ytmbnmhcfafgnaaa
open Go.RowKit Go.Mine

theorem im_len (W : World) (a : Addr) : (method 228 92 (.pointer (some a)) "Len").run Try.prog W = ((loadVar 69 a).run Try.prog W).andThen fun v w' => .ok (93, v) w' := method_via Try.prog 92 69 "Len" 93 (by kernel_rfl) Try.underlying92 227 W a
theorem im_less (W : World) (a : Addr) : (method 228 92 (.pointer (some a)) "Less").run Try.prog W = ((loadVar 69 a).run Try.prog W).andThen fun v w' => .ok (94, v) w' := method_via Try.prog 92 69 "Less" 94 (by kernel_rfl) Try.underlying92 227 W a
theorem im_swap (W : World) (a : Addr) : (method 228 92 (.pointer (some a)) "Swap").run Try.prog W = ((loadVar 69 a).run Try.prog W).andThen fun v w' => .ok (95, v) w' := method_via Try.prog 92 69 "Swap" 95 (by kernel_rfl) Try.underlying92 227 W a
theorem im_push (W : World) (a : Addr) : (method 228 92 (.pointer (some a)) "Push").run Try.prog W = .ok (97, .pointer (some a)) W := by kernel_rfl
theorem im_pop (W : World) (a : Addr) : (method 228 92 (.pointer (some a)) "Pop").run Try.prog W = .ok (96, .pointer (some a)) W := by kernel_rfl

set_option maxRecDepth 100000 in
theorem iLen_any (W : World) (A : Option Addr) (n c : Nat) : Calls Try.prog 93 #[.slice A n c] W fun e w' => e = .returned (.int .i64 (n : Int)) ∧ W = w' := by
  go_enter Try.func93, Try.ntmps93
  go_wp2_with fail
  go_ret
  exact ⟨rfl, rfl⟩

set_option maxRecDepth 100000 in
set_option maxHeartbeats 2000000 in
theorem iLess_any (W : World) {base : Nat} {v : Value} {l : List Nat} (hs : Sl W base 3 1 v l.length (natCells l)) {i j x y : Nat} (hi : l[i]? = some x) (hj : l[j]? = some y) (hb : l.length ≤ 1000000000) :
    Calls Try.prog 94 #[v, .int .i64 (i : Int), .int .i64 (j : Int)] W fun e w' => e = .returned (.bool (ltN x y)) ∧ OnlyIn [] W w' := by
  have hil := (List.getElem?_eq_some_iff.1 hi).1
  have hjl := (List.getElem?_eq_some_iff.1 hj).1
  obtain ⟨g, off, c, rfl, -, -, hc⟩ := hs.form (by omega)
  have a0 := hs.cell_at rfl (natCells_get hi)
  have b0 := hs.cell_at rfl (natCells_get hj)
  obtain ⟨n, hn⟩ : ∃ n, l.length = n := ⟨_, rfl⟩
  rw [hn] at hil hjl hc ⊢
  have e1 : ltN x y = decide ((x : Int) < (y : Int)) := by unfold ltN; exact decide_eq_decide.2 (by omega)
  have e2 : decide (x < y) = decide ((x : Int) < (y : Int)) := decide_eq_decide.2 (by omega)
  obtain ⟨z, hz⟩ : ∃ z, decide (x < y) = z := ⟨_, rfl⟩
  rw [e1]
  clear hs hi hj hn hb e1
  go_enter Try.func94, Try.ntmps94
  go_wp2_with fail
  go_quiet (fail)
  go_wp2_with fail
  go_ret
  exact ⟨by simp, by (repeat (first | (with_reducible assumption) | (with_reducible exact OnlyIn.refl _ _) | (with_reducible refine OnlyIn.setCell ?_ (by first | simp | (simp; omega)) _) | (with_reducible refine OnlyIn.drewN ?_ _) | (with_reducible refine OnlyIn.drew ?_) | (with_reducible refine OnlyIn.alloc ?_ _)))⟩

set_option maxRecDepth 100000 in
set_option maxHeartbeats 4000000 in
theorem iSwap_any (W : World) {base : Nat} {v : Value} {l : List Nat} (hs : Sl W base 3 1 v l.length (natCells l)) {i j : Nat} (hi : i < l.length) (hj : j < l.length) (hb : l.length ≤ 1000000000) :
    Calls Try.prog 95 #[v, .int .i64 (i : Int), .int .i64 (j : Int)] W fun e w' => e = .returned (.tuple #[]) ∧ Sl w' base 3 1 v l.length (natCells (swapL l i j)) ∧ OnlyIn v.ownBlock.toList W w' := by
  obtain ⟨g, off, c, rfl, -, -, hc⟩ := hs.form (by omega)
  obtain ⟨x, hx⟩ : ∃ x, l[i]? = some x := ⟨_, List.getElem?_eq_getElem hi⟩
  obtain ⟨y, hy⟩ : ∃ y, l[j]? = some y := ⟨_, List.getElem?_eq_getElem hj⟩
  have a0 := hs.cell_at rfl (natCells_get hx)
  have b0 := hs.cell_at rfl (natCells_get hy)
  have f := hs.free_at rfl
  have f0 := f (off + i)
  have f2 := f (off + j)
  have h1 := (hs.stored rfl i (.int .i64 (y : Int))).stored rfl j (.int .i64 (x : Int))
  rw [natCells_set, natCells_set, ← swapL_eq hx hy] at h1
  obtain ⟨n, hn⟩ : ∃ n, l.length = n := ⟨_, rfl⟩
  have hij : i = j → x = y := fun e => by rw [e, hy] at hx; injection hx with hx; exact hx.symm
  rw [hn] at hi hj hc h1 ⊢
  have HH := Lib.hid h1
  clear hs hx hy f h1 hn
  by_cases he : i = j
  · have e := hij he
    subst he
    subst e
    clear hij b0 f2
    go_enter Try.func95, Try.ntmps95
    go_wp2_with fail
    go_region
    all_goals
      go_end0
      exact ⟨rfl, HH.out.drew, (((OnlyIn.refl _ _).setCell (.inl (by simp [Value.ownBlock])) _).setCell (.inl (by simp [Value.ownBlock])) _).drew⟩
  · clear hij
    go_enter Try.func95, Try.ntmps95
    go_wp2_with fail
    go_region
    all_goals
      go_end0
      exact ⟨rfl, HH.out.drew, (((OnlyIn.refl _ _).setCell (.inl (by simp [Value.ownBlock])) _).setCell (.inl (by simp [Value.ownBlock])) _).drew⟩

theorem Try.infoI23 : (Try.prog.info? 3).map (fun i => (i.zero, i.size, i.bytes)) = some (some (.int .i64 0), 1, 8) := by kernel_rfl
theorem ita (x : Int) (W : World) : (Instr.typeAssert (.iface 3 (.int .i64 x)) 20 3 false).run Try.prog W = .ok (.int .i64 x) W := by kernel_rfl
/-- A number in an interface. -/
def boxN (n : Nat) : Value := .iface 3 (.int .i64 (n : Int))

set_option maxRecDepth 100000 in
set_option maxHeartbeats 4000000 in
theorem iPush_any (W : World) {b base : Nat} {v x0 x2 x3 : Value} {l : List Nat} (hB : Blk W b 72 [x0, v, x2, x3]) (hs : Sl W base 3 1 v l.length (natCells l)) (hbase : base ≤ W.heap.size) (hb : l.length < 1000) (n : Nat) :
    Calls Try.prog 97 #[.pointer (some ⟨b, 1, none⟩), boxN n] W fun e w' => e = .returned (.tuple #[]) ∧ ∃ v', Blk w' b 72 [x0, v', x2, x3] ∧ Sl w' base 3 1 v' (l ++ [n]).length (natCells (l ++ [n])) ∧ OnlyIn (b :: v.ownBlock.toList) W w' ∧ (∀ g, v'.ownBlock = some g → v.ownBlock = some g ∨ W.heap.size ≤ g) := by
  obtain ⟨A, c, rfl, hc⟩ := hs.val
  obtain ⟨i0, hi0, hz0, hz1, hz2⟩ := info_parts Try.infoI23
  have c0 := hB.cell (i := 1) rfl
  have hne := hB.ne_own hs (by decide)
  have hbl := hB.lt
  have hta := ita
  unfold boxN
  go_enter Try.func97, Try.ntmps97
  go_wp2_with fail
  go_region_law (refine step_append_sl rfl _ _ 69 rfl base 3 i0 _ 1 8 Try.underlying69 hi0 hz0 hz1 hz2 rfl (by decide) (.slice A l.length c) l.length (natCells l) rfl ((hs.alloc _).drew) (.slice (some ⟨W.heap.size, 0, none⟩) 1 1) 1 (natCells [n]) rfl ((Rd.lit W (natCells [n]) 3 1 rfl).drew) (by simp [natCells, Value.oneCell']) (by simp only [maxLen]; omega) (by omega) (by simp; omega) ?_; intro v' w2 hs' hg' hat'; obtain ⟨A2, c2, rfl, hc2⟩ := hs'.val; have hb2 : Blk w2 b 72 _ := ((hB.alloc _).drew).grown hg' hne; have e1 := hb2.cell (i := 1) rfl; have f1 := hb2.free 1)
  all_goals
    go_wp2
    go_end0
    have hs2 := hs'.setCell (p := ⟨b, 1, none⟩) (hs'.ne_blk hb2 (by decide)) (.slice A2 (l.length + 1) c2)
    refine ⟨rfl, .slice A2 (l.length + 1) c2, hb2.set 1 _, ?_, ?_, fun g hg => ?_⟩
    · rw [List.length_append, List.length_singleton, natCells_append]
      exact hs2
    · exact (((OnlyIn.refl _ _).alloc _).drew.grown hg' (fun k hk => .inl (by simp [hk]))).setCell (.inl (by simp)) _
    · rcases hat' g hg with h2 | h2
      · exact .inl h2
      · simp at h2
        exact .inr (by omega)

theorem sl_take1 {w : World} {base e size n c m : Nat} {A : Option Addr} {xs : List Value} (h : Sl w base e size (.slice A n c) n xs) (hm : m ≤ n) : Sl w base e size (.slice A m c) m (xs.take (m * size)) := by
  have hms : m * size ≤ n * size := Nat.mul_le_mul_right _ hm
  refine ⟨by rw [List.length_take, h.1]; omega, ?_⟩
  rcases h.2 with ⟨h1, h2⟩ | ⟨g, off, cap, cur, h1, h2, h3, h4, h5, h6, h7⟩
  · injection h1 with e1 e2 e3
    subst e1 e3
    exact .inl ⟨by rw [show m = 0 by omega], by omega⟩
  · injection h1 with e1 e2 e3
    subst e1 e3
    exact .inr ⟨g, off, c, cur, rfl, h2, h3, by omega, h5, h6, fun j hj => by rw [h7 j (by omega), List.getElem?_take_of_lt hj]⟩

set_option maxRecDepth 100000 in
set_option maxHeartbeats 4000000 in
theorem iPop_any (W : World) {b base : Nat} {v x0 x2 x3 : Value} {l : List Nat} {q : Nat} (hB : Blk W b 72 [x0, v, x2, x3]) (hs : Sl W base 3 1 v (l ++ [q]).length (natCells (l ++ [q]))) (hb : (l ++ [q]).length ≤ 1000) :
    Calls Try.prog 96 #[.pointer (some ⟨b, 1, none⟩)] W fun e w' => e = .returned (boxN q) ∧ ∃ v', Blk w' b 72 [x0, v', x2, x3] ∧ Sl w' base 3 1 v' l.length (natCells l) ∧ OnlyIn [b] W w' ∧ v'.ownBlock = v.ownBlock := by
  have hgl : (l ++ [q])[l.length]? = some q := by simp
  obtain ⟨g, off, c, rfl, -, hgsz, hc⟩ := hs.form (by simp)
  have a0 := hs.cell_at rfl (natCells_get hgl)
  have hne := hB.ne_own hs (by decide)
  rw [List.length_append, List.length_singleton] at hs hb hc hne ⊢
  have hsm := sl_take1 hs (m := l.length) (by omega)
  rw [natCells_append, List.take_left' (by rw [natCells_length]; omega)] at hsm
  have hB2 := hB
  rw [List.length_append, List.length_singleton] at hB2
  have c0 := hB2.cell (i := 1) rfl
  have f0 := hB2.free 1
  have hbl := hB2.lt
  have hgb : g ≠ b := fun e => hne (by rw [e]; rfl)
  have hwn : IntKind.i64.wrap (l.length : Int) = (l.length : Int) := by rw [IntKind.wrap_i64]; omega
  obtain ⟨n, hn⟩ : ∃ n, l.length = n := ⟨_, rfl⟩
  have HH := Lib.hid (And.intro hsm hn)
  rw [hn] at c0 a0 hb hc hwn ⊢
  rw [hn] at hB2
  clear hs hsm hgl hB hne hn
  unfold boxN
  go_enter Try.func96, Try.ntmps96
  go_wp2_with fail
  go_region
  have hB1 := hB2.drew
  have ht1 : OnlyIn [] W W.drew := by (repeat (first | (with_reducible assumption) | (with_reducible exact OnlyIn.refl _ _) | (with_reducible refine OnlyIn.setCell ?_ (by first | simp | (simp; omega)) _) | (with_reducible refine OnlyIn.drewN ?_ _) | (with_reducible refine OnlyIn.drew ?_) | (with_reducible refine OnlyIn.alloc ?_ _)))
  generalize W.drew = w1 at hB1 ht1 ⊢
  have c1 := hB1.cell (i := 1) rfl
  have f1 := hB1.free 1
  clear c0 a0 f0
  go_wp2_with fail
  go_region
  go_wp2_with fail
  go_ret
  have hsm := HH.out.1
  rw [HH.out.2] at hsm
  exact ⟨rfl, .slice (some ⟨g, off, none⟩) n c, (hB1.set 1 _).drew, ((hsm.only ht1 (by simp)).setCell (p := ⟨b, 1, none⟩) (by simp [Value.ownBlock]; exact hgb) _).drew, ((ht1.mono (S' := [b]) (by simp)).setCell (.inl (by simp)) _).drew, rfl⟩

/-- What the methods keep, beside C: a property of worlds that may hang on which blocks are the heap's own. -/
def StI (b base : Nat) (x0 x2 x3 : Value) (C : List Nat → World → Prop) (l : List Nat) (W : World) : Prop :=
  ∃ v, Blk W b 72 [x0, v, x2, x3] ∧ Sl W base 3 1 v l.length (natCells l) ∧ base ≤ W.heap.size ∧ l.length ≤ 1000 ∧ C (b :: v.ownBlock.toList) W

theorem heapPool (b base : Nat) (x0 x2 x3 : Value) (C : List Nat → World → Prop) (hC : ∀ F F' W W', C F W → OnlyIn F W W' → (∀ g ∈ F', g ∈ F ∨ W.heap.size ≤ g) → C F' W') :
    HeapI 92 (.pointer (some ⟨b, 1, none⟩)) 93 94 95 97 96 ltN boxN (StI b base x0 x2 x3 C) where
  weak := weakN
  small := fun ⟨_, _, _, _, h, _⟩ => by omega
  eN := enters_of Try.func93 (by kernel_rfl) rfl
  eL := enters_of Try.func94 (by kernel_rfl) rfl
  eS := enters_of Try.func95 (by kernel_rfl) rfl
  eP := enters_of Try.func97 (by kernel_rfl) rfl
  eQ := enters_of Try.func96 (by kernel_rfl) rfl
  len := by
    rintro l W ⟨v, hB, hs, hb, hl, hc⟩
    obtain ⟨A, c, hv, -⟩ := hs.val
    refine ⟨v, by rw [im_len, loadVar_slice_at hB rfl Try.underlying69]; rfl, ?_⟩
    subst hv
    exact (iLen_any W A l.length c).mono fun e w' ⟨he, hw⟩ => ⟨he, by subst hw; exact ⟨_, hB, hs, hb, hl, hc⟩⟩
  less := by
    rintro l W i j x y ⟨v, hB, hs, hb, hl, hc⟩ hi hj
    refine ⟨v, by rw [im_less, loadVar_slice_at hB rfl Try.underlying69]; rfl, ?_⟩
    exact (iLess_any W hs hi hj (by omega)).mono fun e w' ⟨he, ht⟩ => ⟨he, v, hB.only ht (by simp), hs.only ht (by simp), Nat.le_trans hb ht.size, hl, hC _ _ _ _ hc (ht.mono (by simp)) (fun g hg => .inl hg)⟩
  swap := by
    rintro l W i j ⟨v, hB, hs, hb, hl, hc⟩ hi hj
    refine ⟨v, by rw [im_swap, loadVar_slice_at hB rfl Try.underlying69]; rfl, ?_⟩
    have hne := hB.ne_own hs (by decide)
    exact (iSwap_any W hs hi hj (by omega)).mono fun e w' ⟨he, h1, ht⟩ => ⟨he, v, hB.only ht (fun h => hne (by simpa [eq_comm] using h)), by rw [swapL_length]; exact h1, Nat.le_trans hb ht.size, by rw [swapL_length]; exact hl, hC _ _ _ _ hc (ht.mono (fun k _ h => List.mem_cons_of_mem _ h)) (fun g hg => .inl hg)⟩
  push := by
    rintro l W x ⟨v, hB, hs, hb, hl, hc⟩ h10
    refine ⟨_, im_push W _, ?_⟩
    exact (iPush_any W hB hs hb h10 x).mono fun e w' ⟨he, v', h1, h2, ht, hat⟩ => ⟨he, v', h1, h2, Nat.le_trans hb ht.size, by rw [List.length_append, List.length_singleton]; omega, hC _ _ _ _ hc ht (fun g hg => by
      simp only [List.mem_cons, Option.mem_toList] at hg ⊢
      rcases hg with hg | hg
      · exact .inl (.inl hg)
      · exact (hat g hg).elim (fun h => .inl (.inr h)) .inr)⟩
  pop := by
    rintro l W x ⟨v, hB, hs, hb, hl, hc⟩
    refine ⟨_, im_pop W _, ?_⟩
    have hl2 := hl
    rw [List.length_append, List.length_singleton] at hl2
    exact (iPop_any W hB hs hl).mono fun e w' ⟨he, v', h1, h2, ht, hat⟩ => ⟨he, v', h1, h2, Nat.le_trans hb ht.size, by omega, hC _ _ _ _ hc (ht.mono (fun k _ h => by simp only [List.mem_singleton] at h; subst h; exact List.mem_cons_self)) (fun g hg => by rw [hat] at hg; exact .inl hg)⟩
end Go.Proofs.Ytmbnmhcfafgnaaa
