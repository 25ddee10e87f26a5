/-
  Package press: holders as a heap: its methods.
-/
import Derived.Test.YtmbnmhcfafgnaaaHeap
import Derived.Test.YtmbnmhcfafgnaaaPressSpec
import Derived.Test.YtmbnmhcfafgnaaaRange
import Derived.Test.YtmbnmhcfafgnaaaOwn
import Derived.Test.YtmbnmhcfafgnaaaInv
import Derived.Deep.RegionLaw
import Derived.BigQuiet
import Derived.BigRegion
namespace Go.Proofs.Ytmbnmhcfafgnaaa
open Go.RowKit Go.Mine

theorem hm_len (W : World) (a : Addr) : (method 228 103 (.pointer (some a)) "Len").run Try.prog W = ((loadVar 101 a).run Try.prog W).andThen fun v w' => .ok (98, v) w' := method_via Try.prog 103 101 "Len" 98 (by kernel_rfl) Try.underlying103 227 W a
theorem hm_less (W : World) (a : Addr) : (method 228 103 (.pointer (some a)) "Less").run Try.prog W = ((loadVar 101 a).run Try.prog W).andThen fun v w' => .ok (99, v) w' := method_via Try.prog 103 101 "Less" 99 (by kernel_rfl) Try.underlying103 227 W a
theorem hm_swap (W : World) (a : Addr) : (method 228 103 (.pointer (some a)) "Swap").run Try.prog W = ((loadVar 101 a).run Try.prog W).andThen fun v w' => .ok (100, v) w' := method_via Try.prog 103 101 "Swap" 100 (by kernel_rfl) Try.underlying103 227 W a
theorem hm_push (W : World) (a : Addr) : (method 228 103 (.pointer (some a)) "Push").run Try.prog W = .ok (102, .pointer (some a)) W := by kernel_rfl
theorem hm_pop (W : World) (a : Addr) : (method 228 103 (.pointer (some a)) "Pop").run Try.prog W = .ok (101, .pointer (some a)) W := by kernel_rfl

abbrev hcs (l : List Holder) : List Value := l.flatMap Holder.cells
theorem hcs_length (l : List Holder) : (hcs l).length = l.length * 2 := by
  induction l with
  | nil => rfl
  | cons h l ih => simp only [List.flatMap_cons, List.length_append, ih, Holder.len, List.length_cons]; omega
theorem hcs_id {l : List Holder} {i : Nat} {h : Holder} (hi : l[i]? = some h) : (hcs l)[i * 2]? = some (.int .i64 h.id) := by
  induction l generalizing i with
  | nil => cases hi
  | cons x l ih =>
    cases i with
    | zero => injection hi with hi; subst hi; rfl
    | succ i =>
      have := ih (i := i) (by simpa using hi)
      rw [show (i + 1) * 2 = i * 2 + 2 by omega]
      simpa [Holder.cells] using this
theorem hcs_fr {l : List Holder} {i : Nat} {h : Holder} (hi : l[i]? = some h) : (hcs l)[i * 2 + 1]? = some (.int .i64 h.fr) := by
  induction l generalizing i with
  | nil => cases hi
  | cons x l ih =>
    cases i with
    | zero => injection hi with hi; subst hi; rfl
    | succ i =>
      have := ih (i := i) (by simpa using hi)
      rw [show (i + 1) * 2 + 1 = i * 2 + 1 + 2 by omega]
      simpa [Holder.cells] using this
theorem hcs_set {l : List Holder} {i : Nat} (hi : i < l.length) (h : Holder) : ((hcs l).set (i * 2) (.int .i64 h.id)).set (i * 2 + 1) (.int .i64 h.fr) = hcs (l.set i h) := by
  induction l generalizing i with
  | nil => simp at hi
  | cons x l ih =>
    cases i with
    | zero => rfl
    | succ i =>
      have := ih (i := i) (by simpa using hi)
      rw [show (i + 1) * 2 + 1 = i * 2 + 1 + 2 by omega, show (i + 1) * 2 = i * 2 + 2 by omega]
      simpa [Holder.cells] using this

set_option maxRecDepth 100000 in
theorem hLen_any (W : World) (A : Option Addr) (n c : Nat) : Calls Try.prog 98 #[.slice A n c] W fun e w' => e = .returned (.int .i64 (n : Int)) ∧ W = w' := by
  go_enter Try.func98, Try.ntmps98
  go_wp2_with fail
  go_ret
  exact ⟨rfl, rfl⟩

set_option maxRecDepth 100000 in
set_option maxHeartbeats 2000000 in
theorem hLess_any (W : World) {base : Nat} {v : Value} {l : List Holder} (hs : Sl W base 41 2 v l.length (hcs l)) {i j : Nat} {x y : Holder} (hi : l[i]? = some x) (hj : l[j]? = some y) (hb : l.length ≤ 1000000000) :
    Calls Try.prog 99 #[v, .int .i64 (i : Int), .int .i64 (j : Int)] W fun e w' => e = .returned (.bool (ltH x y)) ∧ OnlyIn [] W w' := by
  have hil := (List.getElem?_eq_some_iff.1 hi).1
  have hjl := (List.getElem?_eq_some_iff.1 hj).1
  obtain ⟨g, off, c, rfl, -, -, hc⟩ := hs.form (by omega)
  have a0 := hs.cell_at rfl (hcs_id hi)
  have a1 := hs.cell_at rfl (hcs_fr hi)
  have b0 := hs.cell_at rfl (hcs_id hj)
  have b1 := hs.cell_at rfl (hcs_fr hj)
  rw [← Nat.add_assoc] at a1 b1
  obtain ⟨n, hn⟩ : ∃ n, l.length = n := ⟨_, rfl⟩
  rw [hn] at hil hjl hc ⊢
  have e1 : ltH x y = (decide (y.fr < x.fr) || (decide (x.fr = y.fr) && decide (x.id < y.id))) := rfl
  obtain ⟨xi, hxi⟩ : ∃ z, x.id = z := ⟨_, rfl⟩
  obtain ⟨xf, hxf⟩ : ∃ z, x.fr = z := ⟨_, rfl⟩
  obtain ⟨yi, hyi⟩ : ∃ z, y.id = z := ⟨_, rfl⟩
  obtain ⟨yf, hyf⟩ : ∃ z, y.fr = z := ⟨_, rfl⟩
  rw [hxi, hxf, hyi, hyf] at e1
  rw [hxi] at a0
  rw [hxf] at a1
  rw [hyi] at b0
  rw [hyf] at b1
  rw [e1]
  clear e1 hs hi hj hn hxi hxf hyi hyf hb
  by_cases h1 : yf < xf
  · have d1 : decide (yf < xf) = true := decide_eq_true h1
    go_enter Try.func99, Try.ntmps99
    go_wp2_with fail
    go_quiet (fail)
    go_wp2_with fail
    go_ret
    exact ⟨by simp [h1], by (repeat (first | (with_reducible assumption) | (with_reducible exact OnlyIn.refl _ _) | (with_reducible refine OnlyIn.setCell ?_ (by first | simp | (simp; omega)) _) | (with_reducible refine OnlyIn.drewN ?_ _) | (with_reducible refine OnlyIn.drew ?_) | (with_reducible refine OnlyIn.alloc ?_ _)))⟩
  · have d1 : decide (yf < xf) = false := decide_eq_false h1
    by_cases h2 : xf = yf
    · subst h2
      have d2 : (xf == xf) = true := by simp
      go_enter Try.func99, Try.ntmps99
      go_wp2_with fail
      go_quiet (fail)
      go_wp2_with fail
      go_ret
      exact ⟨by simp, by (repeat (first | (with_reducible assumption) | (with_reducible exact OnlyIn.refl _ _) | (with_reducible refine OnlyIn.setCell ?_ (by first | simp | (simp; omega)) _) | (with_reducible refine OnlyIn.drewN ?_ _) | (with_reducible refine OnlyIn.drew ?_) | (with_reducible refine OnlyIn.alloc ?_ _)))⟩
    · have d2 : (xf == yf) = false := by simpa using h2
      go_enter Try.func99, Try.ntmps99
      go_wp2_with fail
      go_quiet (fail)
      go_wp2_with fail
      go_ret
      exact ⟨by simp [h1, h2], by (repeat (first | (with_reducible assumption) | (with_reducible exact OnlyIn.refl _ _) | (with_reducible refine OnlyIn.setCell ?_ (by first | simp | (simp; omega)) _) | (with_reducible refine OnlyIn.drewN ?_ _) | (with_reducible refine OnlyIn.drew ?_) | (with_reducible refine OnlyIn.alloc ?_ _)))⟩

theorem swapL_set {α : Type} {l : List α} {i j : Nat} {x y : α} (hi : l[i]? = some x) (hj : l[j]? = some y) : (l.set j x).set i y = swapL l i j := by
  have h1 := (List.getElem?_eq_some_iff.1 hi).1
  have h2 := (List.getElem?_eq_some_iff.1 hj).1
  rw [swapL_eq hi hj]
  by_cases h : i = j
  · subst h
    rw [hi] at hj
    injection hj with hj
    subst hj
    rfl
  · rw [List.set_comm _ _ (fun e => h e.symm)]
theorem hstored2 {W : World} {base : Nat} {g off n c : Nat} {l : List Holder} (hs : Sl W base 41 2 (.slice (some ⟨g, off, none⟩) n c) n (hcs l)) {i : Nat} (hi : i < l.length) (h : Holder) :
    Sl ((W.setCell ⟨g, off + i * 2, none⟩ (.int .i64 h.id)).setCell ⟨g, off + i * 2 + 1, none⟩ (.int .i64 h.fr)) base 41 2 (.slice (some ⟨g, off, none⟩) n c) n (hcs (l.set i h)) := by
  have h1 := (hs.stored rfl (i * 2) (.int .i64 h.id)).stored rfl (i * 2 + 1) (.int .i64 h.fr)
  rw [hcs_set hi, ← Nat.add_assoc] at h1
  exact h1

set_option maxRecDepth 100000 in
set_option maxHeartbeats 4000000 in
theorem hSwap_any (W : World) {base : Nat} {v : Value} {l : List Holder} (hs : Sl W base 41 2 v l.length (hcs l)) {i j : Nat} (hi : i < l.length) (hj : j < l.length) (hb : l.length ≤ 1000000000) :
    Calls Try.prog 100 #[v, .int .i64 (i : Int), .int .i64 (j : Int)] W fun e w' => e = .returned (.tuple #[]) ∧ Sl w' base 41 2 v l.length (hcs (swapL l i j)) ∧ OnlyIn v.ownBlock.toList W w' := by
  obtain ⟨g, off, c, rfl, -, -, hc⟩ := hs.form (by omega)
  obtain ⟨x, hx⟩ : ∃ x, l[i]? = some x := ⟨_, List.getElem?_eq_getElem hi⟩
  obtain ⟨y, hy⟩ : ∃ y, l[j]? = some y := ⟨_, List.getElem?_eq_getElem hj⟩
  have a0 := hs.cell_at rfl (hcs_id hx)
  have a1 := hs.cell_at rfl (hcs_fr hx)
  have b0 := hs.cell_at rfl (hcs_id hy)
  have b1 := hs.cell_at rfl (hcs_fr hy)
  have f := hs.free_at rfl
  have f0 := f (off + i * 2)
  have f1 := f (off + i * 2 + 1)
  have f2 := f (off + j * 2)
  have f3 := f (off + j * 2 + 1)
  rw [← Nat.add_assoc] at a1 b1
  obtain ⟨n, hn⟩ : ∃ n, l.length = n := ⟨_, rfl⟩
  have HH := Lib.hid (And.intro hs (And.intro hx hy))
  have HI := Lib.hid (And.intro hi hj)
  rw [hn] at hi hj hc ⊢
  clear hs hx hy f
  have HNN := Lib.hid hn
  clear hn
  by_cases hij : i = j
  · subst hij
    have e : x = y := by have := HH.out.2.1.symm.trans HH.out.2.2; injection this
    subst e
    go_enter Try.func100, Try.ntmps100
    go_wp2_with fail
    go_region
    go_end0
    obtain ⟨hs, hx, hy⟩ := HH.out
    obtain ⟨hi', hj'⟩ := HI.out
    rw [HNN.out] at hs
    have h1 := hstored2 (hstored2 hs hi' x) (i := i) (by rw [List.length_set]; exact hi') x
    rw [← swapL_eq hx hy] at h1
    exact ⟨rfl, h1.drew, ((((((OnlyIn.refl _ _).setCell (.inl (by simp [Value.ownBlock])) _).setCell (.inl (by simp [Value.ownBlock])) _).setCell (.inl (by simp [Value.ownBlock])) _).setCell (.inl (by simp [Value.ownBlock])) _)).drew⟩
  · go_enter Try.func100, Try.ntmps100
    go_wp2_with fail
    go_region
    go_end0
    obtain ⟨hs, hx, hy⟩ := HH.out
    obtain ⟨hi', hj'⟩ := HI.out
    rw [HNN.out] at hs
    have h1 := hstored2 (hstored2 hs hi' y) (i := j) (by rw [List.length_set]; exact hj') x
    rw [← swapL_eq hx hy] at h1
    exact ⟨rfl, h1.drew, ((((((OnlyIn.refl _ _).setCell (.inl (by simp [Value.ownBlock])) _).setCell (.inl (by simp [Value.ownBlock])) _).setCell (.inl (by simp [Value.ownBlock])) _).setCell (.inl (by simp [Value.ownBlock])) _)).drew⟩

theorem Try.infoHold : (Try.prog.info? 41).map (fun i => (i.zero, i.size, i.bytes)) = some (some (.agg #[.int .i64 0, .int .i64 0]), 2, 16) := by kernel_rfl
theorem hta (x y : Int) (W : World) : (Instr.typeAssert (.iface 41 (.agg #[.int .i64 x, .int .i64 y])) 20 41 false).run Try.prog W = .ok (.agg #[.int .i64 x, .int .i64 y]) W := by kernel_rfl
/-- The value of a holder in an interface. -/
def boxH (h : Holder) : Value := .iface 41 (.agg #[.int .i64 h.id, .int .i64 h.fr])

set_option maxRecDepth 100000 in
set_option maxHeartbeats 4000000 in
theorem hPush_any (W : World) {b base : Nat} {v : Value} {l : List Holder} (hB : Blk W b 101 [v]) (hs : Sl W base 41 2 v l.length (hcs l)) (hbase : base ≤ W.heap.size) (hb : l.length < 1000) (h : Holder) :
    Calls Try.prog 102 #[.pointer (some ⟨b, 0, none⟩), boxH h] W fun e w' => e = .returned (.tuple #[]) ∧ ∃ v', Blk w' b 101 [v'] ∧ Sl w' base 41 2 v' (l ++ [h]).length (hcs (l ++ [h])) ∧ OnlyIn (b :: v.ownBlock.toList) W w' ∧ (∀ g, v'.ownBlock = some g → v.ownBlock = some g ∨ W.heap.size ≤ g) := by
  obtain ⟨A, c, rfl, hc⟩ := hs.val
  obtain ⟨i0, hi0, hz0, hz1, hz2⟩ := info_parts Try.infoHold
  have c0 := hB.cell (i := 0) rfl
  have hne := hB.ne_own hs (by decide)
  have hbl := hB.lt
  have hta := hta
  unfold boxH
  go_enter Try.func102, Try.ntmps102
  go_wp2_with fail
  go_region_law (refine step_append_sl rfl _ _ 101 rfl base 41 i0 _ 2 16 Try.underlying101 hi0 hz0 hz1 hz2 rfl (by decide) (.slice A l.length c) l.length (hcs l) rfl ((hs.alloc _).drew) (.slice (some ⟨W.heap.size, 0, none⟩) 1 1) 1 h.cells rfl ((Rd.lit W h.cells 41 1 rfl).drew) (by simp [Holder.cells, Value.oneCell']) (by simp only [maxLen]; omega) (by omega) (by simp; omega) ?_; intro v' w2 hs' hg' hat'; obtain ⟨A2, c2, rfl, hc2⟩ := hs'.val; have hb2 : Blk w2 b 101 _ := ((hB.alloc _).drew).grown hg' hne; have e1 := hb2.cell (i := 0) rfl; have f1 := hb2.free 0)
  all_goals
    go_wp2
    go_end0
    have hs2 := hs'.setCell (p := ⟨b, 0, none⟩) (hs'.ne_blk hb2 (by decide)) (.slice A2 (l.length + 1) c2)
    refine ⟨rfl, .slice A2 (l.length + 1) c2, hb2.set 0 _, ?_, ?_, fun g hg => ?_⟩
    · rw [List.length_append, List.length_singleton, show hcs (l ++ [h]) = hcs l ++ h.cells by simp [hcs]]
      exact hs2
    · exact (((OnlyIn.refl _ _).alloc _).drew.grown hg' (fun k hk => .inl (by simp [hk]))).setCell (.inl (by simp)) _
    · rcases hat' g hg with h2 | h2
      · exact .inl h2
      · simp at h2
        exact .inr (by omega)

theorem sl_take {w : World} {base e size n c m : Nat} {A : Option Addr} {xs : List Value} (h : Sl w base e size (.slice A n c) n xs) (hm : m ≤ n) : Sl w base e size (.slice A m c) m (xs.take (m * size)) := by
  have hms : m * size ≤ n * size := Nat.mul_le_mul_right _ hm
  refine ⟨by rw [List.length_take, h.1]; omega, ?_⟩
  rcases h.2 with ⟨h1, h2⟩ | ⟨g, off, cap, cur, h1, h2, h3, h4, h5, h6, h7⟩
  · injection h1 with e1 e2 e3
    subst e1 e3
    exact .inl ⟨by rw [show m = 0 by omega], by omega⟩
  · injection h1 with e1 e2 e3
    subst e1 e3
    exact .inr ⟨g, off, c, cur, rfl, h2, h3, by omega, h5, h6, fun j hj => by rw [h7 j (by omega), List.getElem?_take_of_lt hj]⟩
set_option maxRecDepth 100000 in
theorem hcs_snoc (l : List Holder) (h : Holder) : hcs (l ++ [h]) = hcs l ++ h.cells := by simp [hcs]
set_option maxRecDepth 100000 in
set_option maxHeartbeats 4000000 in
theorem hPop_any (W : World) {b base : Nat} {v : Value} {l : List Holder} {h : Holder} (hB : Blk W b 101 [v]) (hs : Sl W base 41 2 v (l ++ [h]).length (hcs (l ++ [h]))) (hb : (l ++ [h]).length ≤ 1000) :
    Calls Try.prog 101 #[.pointer (some ⟨b, 0, none⟩)] W fun e w' => e = .returned (boxH h) ∧ ∃ v', Blk w' b 101 [v'] ∧ Sl w' base 41 2 v' l.length (hcs l) ∧ OnlyIn [b] W w' ∧ v'.ownBlock = v.ownBlock := by
  have hgl : (l ++ [h])[l.length]? = some h := by simp
  obtain ⟨g, off, c, rfl, -, hgsz, hc⟩ := hs.form (by simp)
  have a0 := hs.cell_at rfl (hcs_id hgl)
  have a1 := hs.cell_at rfl (hcs_fr hgl)
  rw [← Nat.add_assoc] at a1
  have hne := hB.ne_own hs (by decide)
  rw [List.length_append, List.length_singleton] at hs hb hc hne ⊢
  have hsm := sl_take hs (m := l.length) (by omega)
  rw [hcs_snoc, List.take_left' (by rw [hcs_length])] at hsm
  have c0 := hB.cell (i := 0) rfl
  rw [List.length_append, List.length_singleton] at c0
  have hB2 := hB
  rw [List.length_append, List.length_singleton] at hB2
  have f0 := hB.free 0
  have hbl := hB.lt
  have hgb : g ≠ b := fun e => hne (by rw [e]; rfl)
  have hwn : IntKind.i64.wrap (l.length : Int) = (l.length : Int) := by rw [IntKind.wrap_i64]; omega
  obtain ⟨n, hn⟩ : ∃ n, l.length = n := ⟨_, rfl⟩
  have HH := Lib.hid (And.intro hsm hn)
  rw [hn] at c0 a0 a1 hb hc hwn ⊢
  rw [hn] at hB2
  clear hs hsm hgl hB hne hn
  obtain ⟨x, hx⟩ : ∃ x, h.id = x := ⟨_, rfl⟩
  obtain ⟨y, hy⟩ : ∃ y, h.fr = y := ⟨_, rfl⟩
  unfold boxH
  rw [hx] at a0 ⊢
  rw [hy] at a1 ⊢
  clear hx hy
  go_enter Try.func101, Try.ntmps101
  go_wp2_with fail
  go_region
  have hB1 := (hB2.alloc (.cells #[.int .i64 x, .int .i64 y] 41)).drew
  have hl1 := (Blk.new W 41 [.int .i64 x, .int .i64 y]).drew
  have ht1 : OnlyIn [] W (W.alloc (.cells #[.int .i64 x, .int .i64 y] 41)).drew := by (repeat (first | (with_reducible assumption) | (with_reducible exact OnlyIn.refl _ _) | (with_reducible refine OnlyIn.setCell ?_ (by first | simp | (simp; omega)) _) | (with_reducible refine OnlyIn.drewN ?_ _) | (with_reducible refine OnlyIn.drew ?_) | (with_reducible refine OnlyIn.alloc ?_ _)))
  generalize (W.alloc (.cells #[.int .i64 x, .int .i64 y] 41)).drew = w1 at hB1 hl1 ht1 ⊢
  have c1 := hB1.cell (i := 0) rfl
  have f1 := hB1.free 0
  have x0 := hl1.cell (i := 0) rfl
  have x1 := hl1.cell (i := 1) rfl
  have hbW : b ≠ W.heap.size := by omega
  clear c0 a0 a1 f0
  go_wp2_with fail
  go_region
  have hbW2 : ¬ W.heap.size = b := fun e => hbW e.symm
  go_wp2_with fail
  go_ret
  have hsm := HH.out.1
  rw [HH.out.2] at hsm
  exact ⟨rfl, .slice (some ⟨g, off, none⟩) n c, (hB1.set 0 _).drew, ((hsm.only ht1 (by simp)).setCell (p := ⟨b, 0, none⟩) (by simp [Value.ownBlock]; exact hgb) _).drew, ((ht1.mono (S' := [b]) (by simp)).setCell (.inl (by simp)) _).drew, rfl⟩

/-- What the methods keep, beside C: a property of worlds that may hang on which blocks are the heap's own. -/
def StH (b base : Nat) (C : List Nat → World → Prop) (l : List Holder) (W : World) : Prop :=
  ∃ v, Blk W b 101 [v] ∧ Sl W base 41 2 v l.length (hcs l) ∧ base ≤ W.heap.size ∧ l.length ≤ 1000 ∧ C (b :: v.ownBlock.toList) W

theorem heapPress (b base : Nat) (C : List Nat → World → Prop) (hC : ∀ F F' W W', C F W → OnlyIn F W W' → (∀ g ∈ F', g ∈ F ∨ W.heap.size ≤ g) → C F' W') :
    HeapI 103 (.pointer (some ⟨b, 0, none⟩)) 98 99 100 102 101 ltH boxH (StH b base C) where
  weak := weakH
  small := fun ⟨_, _, _, _, h, _⟩ => by omega
  eN := enters_of Try.func98 (by kernel_rfl) rfl
  eL := enters_of Try.func99 (by kernel_rfl) rfl
  eS := enters_of Try.func100 (by kernel_rfl) rfl
  eP := enters_of Try.func102 (by kernel_rfl) rfl
  eQ := enters_of Try.func101 (by kernel_rfl) rfl
  len := by
    rintro l W ⟨v, hB, hs, hb, hl, hc⟩
    obtain ⟨A, c, hv, -⟩ := hs.val
    refine ⟨v, by rw [hm_len, loadVar_slice hB Try.underlying101]; rfl, ?_⟩
    subst hv
    exact (hLen_any W A l.length c).mono fun e w' ⟨he, hw⟩ => ⟨he, by subst hw; exact ⟨_, hB, hs, hb, hl, hc⟩⟩
  less := by
    rintro l W i j x y ⟨v, hB, hs, hb, hl, hc⟩ hi hj
    refine ⟨v, by rw [hm_less, loadVar_slice hB Try.underlying101]; rfl, ?_⟩
    exact (hLess_any W hs hi hj (by omega)).mono fun e w' ⟨he, ht⟩ => ⟨he, v, hB.only ht (by simp), hs.only ht (by simp), Nat.le_trans hb ht.size, hl, hC _ _ _ _ hc (ht.mono (by simp)) (fun g hg => .inl hg)⟩
  swap := by
    rintro l W i j ⟨v, hB, hs, hb, hl, hc⟩ hi hj
    refine ⟨v, by rw [hm_swap, loadVar_slice hB Try.underlying101]; rfl, ?_⟩
    have hne := hB.ne_own hs (by decide)
    exact (hSwap_any W hs hi hj (by omega)).mono fun e w' ⟨he, h1, ht⟩ => ⟨he, v, hB.only ht (fun h => hne (by simpa [eq_comm] using h)), by rw [swapL_length]; exact h1, Nat.le_trans hb ht.size, by rw [swapL_length]; exact hl, hC _ _ _ _ hc (ht.mono (fun k _ h => List.mem_cons_of_mem _ h)) (fun g hg => .inl hg)⟩
  push := by
    rintro l W x ⟨v, hB, hs, hb, hl, hc⟩ h10
    refine ⟨_, hm_push W _, ?_⟩
    exact (hPush_any W hB hs hb h10 x).mono fun e w' ⟨he, v', h1, h2, ht, hat⟩ => ⟨he, v', h1, h2, Nat.le_trans hb ht.size, by rw [List.length_append, List.length_singleton]; omega, hC _ _ _ _ hc ht (fun g hg => by
      simp only [List.mem_cons, Option.mem_toList] at hg ⊢
      rcases hg with hg | hg
      · exact .inl (.inl hg)
      · exact (hat g hg).elim (fun h => .inl (.inr h)) .inr)⟩
  pop := by
    rintro l W x ⟨v, hB, hs, hb, hl, hc⟩
    refine ⟨_, hm_pop W _, ?_⟩
    have hl2 := hl
    rw [List.length_append, List.length_singleton] at hl2
    exact (hPop_any W hB hs hl).mono fun e w' ⟨he, v', h1, h2, ht, hat⟩ => ⟨he, v', h1, h2, Nat.le_trans hb ht.size, by omega, hC _ _ _ _ hc (ht.mono (fun k _ h => by simp only [List.mem_singleton] at h; subst h; exact List.mem_cons_self)) (fun g hg => by rw [hat] at hg; exact .inl hg)⟩
end Go.Proofs.Ytmbnmhcfafgnaaa
