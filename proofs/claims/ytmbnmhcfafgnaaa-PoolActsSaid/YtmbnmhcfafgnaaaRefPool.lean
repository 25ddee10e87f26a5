/-
  Law 23's reference: how its pool lies in memory; Held, Free, refuses.
-/
import Derived.Test.YtmbnmhcfafgnaaaCountsLaw
namespace Go.Proofs.Ytmbnmhcfafgnaaa
open Go.RowKit Go.Mine

abbrev RRow := Fr × Option Nat
def rcells (r : RRow) : List Value := [.int .i64 r.1.owner, .int .i64 r.1.handles, svB r.2]
theorem rcells_len (r : RRow) : (rcells r).length = 3 := rfl
def rFs (R : List RRow) : List Fr := R.map Prod.fst
def rOwn (b lb : Nat) (R : List RRow) : List Nat := b :: lb :: R.filterMap Prod.snd
structure RfAt (w : World) (base b lb N : Nat) (q : Int) (R : List RRow) : Prop where
  blk : Blk w b 96 [.slice (some ⟨lb, 0, none⟩) N N, .int .i64 q]
  arr : Blk w lb 99 (R.flatMap rcells)
  len : R.length = N
  dl : ∀ (i : Nat) (f : Fr) (bo : Option Nat), R[i]? = some (f, bo) → f.data.length = 152064 ∧ (bo = none → f.data = List.replicate 152064 0)
  yes : ∀ (i : Nat) (f : Fr) (x : Nat), R[i]? = some (f, some x) → Blk w x 5 (byteCells f.data) ∧ base ≤ x
  nb : ∀ (i j : Nat) (f g : Fr) (x : Nat), R[i]? = some (f, some x) → R[j]? = some (g, some x) → i = j
  bb : base ≤ b ∧ base ≤ lb
  n64 : 1 ≤ N ∧ N ≤ 64
section
variable {w w' : World} {base b lb N : Nat} {q : Int} {R : List RRow} {S : List Nat}
theorem rset {R : List RRow} {i : Nat} {x y : RRow} (hx : R[i]? = some x) (c : Nat) (hc : c < 3) (v : Value) (hy : rcells y = (rcells x).set c v) : (R.flatMap rcells).set (i * 3 + c) v = (R.set i y).flatMap rcells := by
  have hi := (List.getElem?_eq_some_iff.1 hx).1
  have hl := flat_length rcells_len R
  refine flat_set_of rcells_len (by omega) R i hi y _ ?_ ?_
  · intro j hj
    rw [hy]
    by_cases e : c = j
    · subst e
      rw [List.getElem?_set_self (by omega), List.getElem?_set_self (by rw [rcells_len]; exact hc)]
    · rw [List.getElem?_set_ne (by omega), List.getElem?_set_ne e, flat_get rcells_len R i j hj, hx]
      rfl
  · intro n hn
    rw [List.getElem?_set_ne (by omega)]
theorem rFs_at {i : Nat} {f : Fr} {bo : Option Nat} (h : R[i]? = some (f, bo)) : frAt (rFs R) i = f := by
  unfold frAt rFs
  rw [List.getD_eq_getElem?_getD, List.getElem?_map, h]
  rfl
theorem rFs_len : (rFs R).length = R.length := List.length_map _
theorem rFs_set (i : Nat) (f : Fr) (bo : Option Nat) : rFs (R.set i (f, bo)) = (rFs R).set i f := List.map_set
theorem RfAt.row (h : RfAt w base b lb N q R) {i : Nat} (hi : i < N) : ∃ bo, R[i]? = some (frAt (rFs R) i, bo) := by
  have : R[i]? = some (R[i]'(by rw [h.len]; exact hi)) := List.getElem?_eq_getElem _
  refine ⟨(R[i]'(by rw [h.len]; exact hi)).2, ?_⟩
  rw [rFs_at (f := (R[i]'(by rw [h.len]; exact hi)).1) (bo := (R[i]'(by rw [h.len]; exact hi)).2) this]
  exact this
theorem RfAt.fl (h : RfAt w base b lb N q R) : (rFs R).length = N := by rw [rFs_len, h.len]
theorem RfAt.cell (h : RfAt w base b lb N q R) {i : Nat} {f : Fr} {bo : Option Nat} (hr : R[i]? = some (f, bo)) : w.cell? ⟨lb, i * 3, none⟩ = some (.int .i64 f.owner) ∧ w.cell? ⟨lb, i * 3 + 1, none⟩ = some (.int .i64 f.handles) ∧ w.cell? ⟨lb, i * 3 + 2, none⟩ = some (svB bo) := by
  refine ⟨h.arr.cell ?_, h.arr.cell ?_, h.arr.cell ?_⟩
  · rw [show i * 3 = i * 3 + 0 from rfl, flat_get rcells_len R i 0 (by omega), hr]; rfl
  · rw [flat_get rcells_len R i 1 (by omega), hr]; rfl
  · rw [flat_get rcells_len R i 2 (by omega), hr]; rfl
theorem mem_rown {x : Nat} {i : Nat} {f : Fr} (h : R[i]? = some (f, some x)) : x ∈ rOwn b lb R := by
  unfold rOwn
  simp only [List.mem_cons, List.mem_filterMap]
  exact .inr (.inr ⟨_, List.mem_of_getElem? h, rfl⟩)
theorem RfAt.only (h : RfAt w base b lb N q R) (ht : OnlyIn S w w') (hS : ∀ k ∈ S, k ∉ rOwn b lb R) : RfAt w' base b lb N q R where
  blk := h.blk.only ht fun hm => hS _ hm (by unfold rOwn; simp)
  arr := h.arr.only ht fun hm => hS _ hm (by unfold rOwn; simp)
  len := h.len
  dl := h.dl
  yes := fun i f x hx => ⟨(h.yes i f x hx).1.only ht fun hm => hS _ hm (mem_rown hx), (h.yes i f x hx).2⟩
  nb := h.nb
  bb := h.bb
  n64 := h.n64
theorem RfAt.lt (h : RfAt w base b lb N q R) : ∀ k ∈ rOwn b lb R, base ≤ k ∧ k < w.heap.size := by
  intro k hk
  unfold rOwn at hk
  simp only [List.mem_cons, List.mem_filterMap] at hk
  rcases hk with rfl | rfl | ⟨⟨f, bo⟩, hm, hb⟩
  · exact ⟨h.bb.1, h.blk.lt⟩
  · exact ⟨h.bb.2, h.arr.lt⟩
  · simp only at hb
    subst hb
    obtain ⟨i, hi⟩ := List.getElem?_of_mem hm
    exact ⟨(h.yes i f k hi).2, (h.yes i f k hi).1.lt⟩
/-- A frame's owner and handles are written. -/
theorem RfAt.put (h : RfAt w base b lb N q R) {i : Nat} {f f' : Fr} {bo : Option Nat} (hr : R[i]? = some (f, bo)) (hd : f'.data = f.data) (ht : OnlyIn [lb] w w') (ha : Blk w' lb 99 ((R.set i (f', bo)).flatMap rcells)) : RfAt w' base b lb N q (R.set i (f', bo)) ∧ ∀ k ∈ rOwn b lb (R.set i (f', bo)), k ∈ rOwn b lb R := by
  have hi := (List.getElem?_eq_some_iff.1 hr).1
  have key : ∀ (j : Nat) (g : Fr) (bo' : Option Nat), (R.set i (f', bo))[j]? = some (g, bo') → ∃ g' : Fr, R[j]? = some (g', bo') ∧ g.data = g'.data := fun j g bo' hj => by
    by_cases e : i = j
    · subst e
      rw [List.getElem?_set_self hi] at hj
      injection hj with hj
      injection hj with h1 h2
      subst h1 h2
      exact ⟨f, hr, hd⟩
    · rw [List.getElem?_set_ne e] at hj
      exact ⟨g, hj, rfl⟩
  refine ⟨⟨h.blk.only ht fun hm => ?_, ha, by rw [List.length_set]; exact h.len, fun j g bo' hj => ?_, fun j g x hj => ?_, fun j1 j2 g1 g2 x h1 h2 => ?_, h.bb, h.n64⟩, fun k hk => ?_⟩
  · simp only [List.mem_singleton] at hm
    exact h.blk.ne_ h.arr (by decide) hm
  · obtain ⟨g', h1, h2⟩ := key j g bo' hj
    rw [h2]
    exact h.dl j g' bo' h1
  · obtain ⟨g', h1, h2⟩ := key j g _ hj
    rw [h2]
    refine ⟨(h.yes j g' x h1).1.only ht fun hm => ?_, (h.yes j g' x h1).2⟩
    simp only [List.mem_singleton] at hm
    exact (h.yes j g' x h1).1.ne_ h.arr (by decide) hm
  · obtain ⟨g1', e1, -⟩ := key _ _ _ h1
    obtain ⟨g2', e2, -⟩ := key _ _ _ h2
    exact h.nb _ _ _ _ _ e1 e2
  · unfold rOwn at hk ⊢
    simp only [List.mem_cons, List.mem_filterMap] at hk ⊢
    rcases hk with rfl | rfl | ⟨⟨g, bo'⟩, hm, hb⟩
    · exact .inl rfl
    · exact .inr (.inl rfl)
    · simp only at hb
      subst hb
      obtain ⟨j, hj⟩ := List.getElem?_of_mem hm
      obtain ⟨g', e1, -⟩ := key _ _ _ hj
      exact .inr (.inr ⟨_, List.mem_of_getElem? e1, rfl⟩)
/-- How many of the first k are an owner's. -/
def cntK (fs : List Fr) (o : Int) (k : Nat) : Nat := cntO (fs.take k) o
theorem cntK_zero (fs : List Fr) (o : Int) : cntK fs o 0 = 0 := by unfold cntK; simp [cntO]
theorem cntK_all (fs : List Fr) (o : Int) : cntK fs o fs.length = cntO fs o := by unfold cntK; rw [List.take_length]
theorem cntK_le (fs : List Fr) (o : Int) (k : Nat) : cntK fs o k ≤ k := by
  unfold cntK
  exact Nat.le_trans (cntO_le _ _) (by rw [List.length_take]; omega)
theorem cntK_succ (fs : List Fr) (o : Int) {k : Nat} (h : k < fs.length) : cntK fs o (k + 1) = cntK fs o k + (if (frAt fs k).owner = o then 1 else 0) := by
  unfold cntK cntO
  rw [List.take_add_one, List.getElem?_eq_getElem h, Option.toList_some, List.countP_append, frAt_eq h]
  simp

set_option maxRecDepth 100000 in
theorem ref_free (h : RfAt w base b lb N q R) : Calls Try.prog 67 #[.pointer (some ⟨b, 0, none⟩)] w fun e w' => e = .returned (.int .i64 ((freeI (rFs R)).length : Int)) ∧ w = w' := by
  rw [freeI_cnt, ← cntK_all, h.fl]
  have c0 := h.blk.cell (i := 0) rfl
  have HH := Lib.hid h
  have hN := h.n64
  clear h
  go_enter Try.func67, Try.ntmps67
  go_wp2_with fail
  go_loopw [3, 4] (fun s i wr => ∃ k : Nat, k ≤ N ∧ s = .int .i64 (cntK (rFs R) 0 k : Int) ∧ i = .int .i64 (k : Int) ∧ wr = w) (fun _ i _ => N - (RowKit.intOf i).toNat)
  case atStart => exact ⟨0, by omega, by rw [cntK_zero]; rfl, rfl, rfl⟩
  case round =>
    obtain ⟨k, hk, rfl, rfl, rfl⟩ := hrel
    by_cases hlt : k < N
    · obtain ⟨bo, hr⟩ := HH.out.row hlt
      obtain ⟨d0, -, -⟩ := HH.out.cell hr
      have hs := cntK_succ (rFs R) 0 (k := k) (by rw [HH.out.fl]; exact hlt)
      have hl := cntK_le (rFs R) 0 k
      generalize (frAt (rFs R) k).owner = z at d0 hs
      by_cases h0 : z = 0
      · subst h0
        rw [if_pos rfl] at hs
        have hw : IntKind.i64.wrap ((cntK (rFs R) 0 k : Int) + 1) = ((cntK (rFs R) 0 (k + 1) : Nat) : Int) := by rw [IntKind.wrap_i64, hs]; omega
        clear hr hs hl
        go_wp2_with fail
        go_roundw
        case rel => exact ⟨k + 1, by omega, by first | rfl | go_num, by first | rfl | go_num, by first | rfl | trivial⟩
        case measure => simp [RowKit.intOf]; omega
      · have d : (z == 0) = false := by simpa using h0
        rw [if_neg h0] at hs
        have HS : cntK (rFs R) 0 (k + 1) = cntK (rFs R) 0 k := hs
        have HS := Lib.hid HS
        clear hr hs hl
        go_wp2_with fail
        go_roundw
        case rel => exact ⟨k + 1, by omega, by rw [HS.out], by first | rfl | go_num, by first | rfl | trivial⟩
        case measure => simp [RowKit.intOf]; omega
    · obtain rfl : N = k := by omega
      go_wp2_with fail
      go_ret
      exact ⟨rfl, rfl⟩
end
end Go.Proofs.Ytmbnmhcfafgnaaa
