/-
  Package pattern: Get, Put; the reference for layer 7.
-/
import Derived.Test.YteblkjmeaojegaaDoorPatTree
import Derived.Test.YteblkjmeaojegaaDoorPrefixGet
import Derived.Test.YteblkjmeaojegaaDoorPrefixLaw
import Derived.Test.YteblkjmeaojegaaDoorOwn
namespace Go.Mine
/-- What a tree answers to any place. -/
def getT (t : List TNode) (bs : List UInt8) (i : Int) : Int × Int × Int := if i < 0 then (0, 0, 3) else getF t 0 0 (bitsFrom bs i.toNat)
end Go.Mine
namespace Go.Proofs.YteblkjmeaojegaaDoor
open Go.RowKit Go.Mine Go.Shelf

attribute [local go_sem] Oper.semAt_some

abbrev pz : List (List UInt8 × Int) := pcodes.zip pnums

set_option maxRecDepth 100000 in
theorem TGetT (w : World) {base b mb n m : Nat} {tv : Value} {t : List TNode} {f : Int → Option ByteArray} (h : Tr w base b tv mb n t f m) (hm : 0 < m) (v : Value) (bs : List UInt8) (hr : Rd w 1 v bs.length (byteCells bs)) (hl : bs.length ≤ 1000000000) (i : Int) (hi : i ≤ 9223372036854775807) :
    Calls Tryd.prog 28 #[.pointer (some ⟨b, 0, none⟩), v, .int .i64 i] w fun e w' => e = .returned (.tuple #[.int .i64 (getT t bs i).1, .int .i64 (getT t bs i).2.1, .int .i64 (getT t bs i).2.2]) ∧ OnlyIn [] w w' := by
  unfold getT
  by_cases hn : i < 0
  · rw [if_pos hn]
    obtain ⟨-, A, c, rfl, -⟩ := hr
    exact TGet_neg w h hm A _ c i hn
  · rw [if_neg hn]
    obtain ⟨k, rfl⟩ := Int.eq_ofNat_of_zero_le (by omega : 0 ≤ i)
    exact TGet_any w h hm v bs hr hl k (by omega)
set_option maxRecDepth 100000 in
theorem rGetT (w : World) {base b : Nat} {tv tu : Value} {cs : List (List UInt8)} {ns : List Int} (h : RT w base b tv tu cs ns) (hl : cs.length = ns.length) (hN : cs.length ≤ 1000000) (hs : ∀ s ∈ cs, s.length ≤ 1000000)
    (h0 : 0 < cs.length) (hc : cs.all codeB = true) {t : List TNode} (hb : build [TNode.mt] (kvOf (cs.zip ns)) = some t)
    (v : Value) (bs : List UInt8) (hr : Rd w 1 v bs.length (byteCells bs)) (hbl : bs.length ≤ 1000000000) (i : Int) (hi : i ≤ 9223372036854775807) :
    Calls Tryd.prog 30 #[.pointer (some ⟨b, 0, none⟩), v, .int .i64 i] w fun e w' => e = .returned (.tuple #[.int .i64 (getT t bs i).1, .int .i64 (getT t bs i).2.1, .int .i64 (getT t bs i).2.2]) ∧ OnlyIn [] w w' := by
  unfold getT
  by_cases hn : i < 0
  · rw [if_pos hn]
    obtain ⟨-, A, c, rfl, -⟩ := hr
    exact rGet_neg w _ A _ c i hn
  · rw [if_neg hn]
    obtain ⟨k, rfl⟩ := Int.eq_ofNat_of_zero_le (by omega : 0 ≤ i)
    have := rGet_any w h hl hN hs v bs hr hbl k (by omega)
    rw [Int.toNat_natCast, getF_ref hl h0 hc hb bs k]
    exact this

set_option maxRecDepth 100000 in
theorem pGet_any (w : World) (hsp : Spaced w) (v : Value) (bs : List UInt8) (hr : Rd w 1 v bs.length (byteCells bs)) (hl : bs.length ≤ 1000000000) (i : Int) (hi : i ≤ 9223372036854775807) :
    Calls Tryd.prog 11 #[v, .int .i64 i] w fun e w' => e = .returned (.tuple #[.int .i64 (getT PT bs i).1, .int .i64 (getT PT bs i).2.1, .int .i64 (getT PT bs i).2.2]) ∧ OnlyIn [] w w' := by
  have ht := ptree_any w hsp
  obtain ⟨A, c, rfl⟩ : ∃ A c, v = .slice A bs.length c := by
    obtain ⟨-, A, c, rfl, -⟩ := hr
    exact ⟨A, c, rfl⟩
  have hg := fun w1 {base b tv mb} (ho : OnlyIn [] w w1) (hT : Tr w1 base b tv mb 63 PT (told pz) 63) => TGetT w1 hT (by decide) _ bs (hr.cells fun p u hp => ho.cell hp (by simp)) hl i hi
  obtain ⟨⟨x, m, er⟩, hx⟩ : ∃ x, getT PT bs i = x := ⟨_, rfl⟩
  rw [hx] at hg ⊢
  simp only at hg ⊢
  clear hx hr
  go_enter Tryd.func11, Tryd.ntmps11
  go_wp2_with (first | (go_at_call 27; refine ht.mono ?_; rintro e w1 ⟨b, tv, mb, rfl, hT, h1⟩) | (go_at_call 28; refine (hg _ h1 hT).mono ?_; rintro e w2 ⟨rfl, h2⟩))
  go_ret3
  exact ⟨rfl, h1.trans h2⟩

set_option maxRecDepth 100000 in
theorem pPut_any (w : World) (hsp : Spaced w) (x : Int) (hx : -9223372036854775808 ≤ x ∧ x ≤ 9223372036854775807) :
    Calls Tryd.prog 14 #[.int .i64 x] w fun e w' => e = .returned (.tuple #[.string (putOf (told pz) x).1, .int .i64 (putOf (told pz) x).2]) ∧ OnlyIn [] w w' := by
  have ht := ptree_any w hsp
  have hg := fun w1 {base b tv mb} (hT : Tr w1 base b tv mb 63 PT (told pz) 63) => TPut_any w1 hT (by decide) x hx
  obtain ⟨⟨s, er⟩, hx⟩ : ∃ y, putOf (told pz) x = y := ⟨_, rfl⟩
  rw [hx] at hg ⊢
  simp only at hg ⊢
  clear hx
  go_enter Tryd.func14, Tryd.ntmps14
  go_wp2_with (first | (go_at_call 27; refine ht.mono ?_; rintro e w1 ⟨b, tv, mb, rfl, hT, h1⟩) | (go_at_call 31; refine (hg _ hT).mono ?_; rintro e w2 ⟨rfl, h2⟩))
  go_ret2
  exact ⟨rfl, h1.trans h2⟩

set_option maxRecDepth 100000 in
theorem rpcodes_any (w : World) : Calls Tryd.prog 42 #[] w fun e w' => ∃ v, e = .returned v ∧ Rd w' 1 v pcodes.length (txtCells pcodes) ∧ OnlyIn [] w w' := by
  go_enter Tryd.func42, Tryd.ntmps42
  go_wp2_with fail
  go_ret
  exact ⟨_, rfl, Rd.lit (size := 1) w (txtCells pcodes) 9 63 rfl, (OnlyIn.refl _ _).alloc _⟩

set_option maxRecDepth 100000 in
set_option maxHeartbeats 1000000 in
theorem rpTree_any (w : World) : Calls Tryd.prog 29 #[] w fun e w' => ∃ b v u, e = .returned (.pointer (some ⟨b, 0, none⟩)) ∧ RT w' w.heap.size b v u pcodes pnums ∧ OnlyIn [] w w' := by
  obtain ⟨i0, hi0, hz0, hz1, hz2⟩ := info_parts Tryd.infoIC
  go_enter Tryd.func29, Tryd.ntmps29
  go_wp2_with fail
  go_loopw [1, 2] (fun s i wr => ∃ k : Nat, k ≤ 63 ∧ i = .int .i64 ((k : Int) + 1) ∧ OnlyIn [] w wr ∧ Sl wr w.heap.size 3 1 s k (intCells (pnums.take k))) (fun _ i _ => 64 - (intOf i).toNat)
  case atStart => exact ⟨0, by omega, rfl, OnlyIn.refl _ _, Sl.nil _ _ _ _⟩
  case round =>
    obtain ⟨k, hk, rfl, hto, hs⟩ := hrel
    obtain ⟨A2, c2, rfl, hc2⟩ := hs.val
    by_cases hlt : k < 63
    · have hle : decide ((k : Int) + 1 ≤ 63) = true := decide_eq_true (by omega)
      have hs' := hs.alloc (.cells (intCells [((k : Int) + 1)]).toArray 3)
      have hrd := Rd.lit wr (intCells [((k : Int) + 1)]) 3 1 (size := 1) rfl
      have hbw : w.heap.size ≤ wr.heap.size := hto.size
      have hmeas : 64 - (k + 1 + 1) < 64 - (k + 1) := by omega
      have HT := Lib.hid (And.intro hto (ptake hlt).2)
      clear hs hto
      go_wp2_with (at_builtin; refine wpList_append_sl rfl _ _ 39 rfl w.heap.size 3 i0 _ 1 8 Tryd.underlying39 hi0 hz0 hz1 hz2 rfl (by decide) (.slice A2 _ c2) _ _ rfl hs' _ 1 _ rfl hrd (intCells_one _) (by simp only [maxLen]; omega) (by omega) (by simp; omega) ?_; intro v5 w5 hs5 hg5 hat5)
      go_roundw
      case rel =>
        refine ⟨k + 1, by omega, by go_num, (HT.out.1.alloc _).grown hg5 (fun g hg => .inr (hs'.own_lt g hg).1), ?_⟩
        rw [HT.out.2]
        exact hs5
      case measure => simp [intOf]; omega
    · obtain rfl : k = 63 := by omega
      have hc := rpcodes_any wr
      have hn0 := Rd.of_sl hs
      have ht63 : pnums.take 63 = pnums := by decide
      rw [ht63] at hn0
      have hmk := fun w1 v (h1 : OnlyIn [] wr w1) (hv : Rd w1 1 v pcodes.length (txtCells pcodes)) => rMake_any w1 v (.slice A2 63 c2) pcodes pnums hv (hn0.cells fun p u hp => h1.cell hp (by simp)) (by decide +kernel) (by decide +kernel) (by decide +kernel)
      have HH := Lib.hid hto
      clear hs hto hn0 ht63
      go_wp2_with fail
      refine hc.mono ?_
      rintro e w1 ⟨v, rfl, hv, h1⟩
      have hm := hmk w1 v h1 hv
      obtain ⟨-, A, c, rfl, -⟩ := hv
      clear hmk
      go_wp2_with fail
      refine hm.mono ?_
      rintro e w2 ⟨ho2, h⟩
      rcases h with ⟨hbad, -⟩ | ⟨-, ⟨hcl, -⟩ | ⟨-, b, tv, tu, rfl, hRT⟩⟩
      · exfalso
        rcases hbad with hbad | hbad | hbad | hbad
        · exact hbad (by decide +kernel)
        · exact absurd hbad (by decide +kernel)
        · exact absurd hbad (by decide +kernel)
        · rw [pcodes_ok] at hbad; cases hbad
      · exfalso
        rcases build_iff (cs := pcodes) (ns := pnums) (by decide +kernel) pcodes_ok with ⟨h, -⟩ | ⟨t, lab, -, h, -⟩
        · rw [pbuild] at h; cases h
        · exact h hcl
      clear hm
      have hz1 := HH.out.size
      have hz2 := h1.size
      go_wp2_with fail
      go_ret
      exact ⟨b, tv, tu, rfl, ⟨hRT.blk, hRT.sc.mono (by omega), hRT.sn.mono (by omega), by have := hRT.bb; omega⟩, (HH.out.trans h1).trans ho2⟩

set_option maxRecDepth 100000 in
theorem rpGet_any (w : World) (v : Value) (bs : List UInt8) (hr : Rd w 1 v bs.length (byteCells bs)) (hl : bs.length ≤ 1000000000) (i : Int) (hi : i ≤ 9223372036854775807) :
    Calls Tryd.prog 12 #[v, .int .i64 i] w fun e w' => e = .returned (.tuple #[.int .i64 (getT PT bs i).1, .int .i64 (getT PT bs i).2.1, .int .i64 (getT PT bs i).2.2]) ∧ OnlyIn [] w w' := by
  have ht := rpTree_any w
  obtain ⟨A, c, rfl⟩ : ∃ A c, v = .slice A bs.length c := by
    obtain ⟨-, A, c, rfl, -⟩ := hr
    exact ⟨A, c, rfl⟩
  have hg := fun w1 {base b tv tu} (ho : OnlyIn [] w w1) (hT : RT w1 base b tv tu pcodes pnums) => rGetT w1 hT (by decide +kernel) (by decide +kernel) (by decide +kernel) (by decide +kernel) pcodes_ok pbuild _ bs (hr.cells fun p u hp => ho.cell hp (by simp)) hl i hi
  obtain ⟨⟨x, m, er⟩, hx⟩ : ∃ x, getT PT bs i = x := ⟨_, rfl⟩
  rw [hx] at hg ⊢
  simp only at hg ⊢
  clear hx hr
  go_enter Tryd.func12, Tryd.ntmps12
  go_wp2_with (first | (go_at_call 29; refine ht.mono ?_; rintro e w1 ⟨b, tv, tu, rfl, hT, h1⟩) | (go_at_call 30; refine (hg _ h1 hT).mono ?_; rintro e w2 ⟨rfl, h2⟩))
  go_ret3
  exact ⟨rfl, h1.trans h2⟩

set_option maxRecDepth 100000 in
theorem rpPut_any (w : World) (x : Int) :
    Calls Tryd.prog 15 #[.int .i64 x] w fun e w' => e = .returned (.tuple #[.string (putOf (told pz) x).1, .int .i64 (putOf (told pz) x).2]) ∧ OnlyIn [] w w' := by
  have ht := rpTree_any w
  have hg := fun w1 {base b tv tu} (hT : RT w1 base b tv tu pcodes pnums) => rPut_any w1 hT (by decide +kernel) (by decide +kernel) x
  obtain ⟨⟨s, er⟩, hx⟩ : ∃ y, putOf (told pz) x = y := ⟨_, rfl⟩
  rw [hx] at hg ⊢
  simp only at hg ⊢
  clear hx
  go_enter Tryd.func15, Tryd.ntmps15
  go_wp2_with (first | (go_at_call 29; refine ht.mono ?_; rintro e w1 ⟨b, tv, tu, rfl, hT, h1⟩) | (go_at_call 32; refine (hg _ hT).mono ?_; rintro e w2 ⟨rfl, rfl⟩))
  go_ret2
  exact ⟨rfl, h1⟩

/-- Does a pattern say a block? -/
def hasF (n b : Int) : Bool := decide (1 ≤ n ∧ n ≤ 63) && decide (1 ≤ b ∧ b ≤ 6) && (n.toNat / 2 ^ (6 - b.toNat) % 2 == 1)
theorem has_and : ∀ n : Fin 64, ∀ j : Fin 6, (bits .and .i64 ((n.val : Nat) : Int) ((2 ^ j.val : Nat) : Int) != 0) = (n.val / 2 ^ j.val % 2 == 1) := by decide +kernel
theorem has_out {n b : Int} (h : ¬ ((1 ≤ n ∧ n ≤ 63) ∧ (1 ≤ b ∧ b ≤ 6))) : hasF n b = false := by
  unfold hasF
  by_cases h1 : 1 ≤ n ∧ n ≤ 63
  · have h2 : ¬ (1 ≤ b ∧ b ≤ 6) := fun h2 => h ⟨h1, h2⟩
    rw [decide_eq_false h2]; simp
  · rw [decide_eq_false h1]; simp
theorem has_int1 : ∀ m : Fin 64, 1 ≤ m.val → hasF ((m.val : Nat) : Int) 1 = (((m.val : Nat) : Int) / 32 % 2 == 1) := by decide +kernel
theorem has_int2 : ∀ m : Fin 64, 1 ≤ m.val → hasF ((m.val : Nat) : Int) 2 = (((m.val : Nat) : Int) / 16 % 2 == 1) := by decide +kernel
theorem has_int3 : ∀ m : Fin 64, 1 ≤ m.val → hasF ((m.val : Nat) : Int) 3 = (((m.val : Nat) : Int) / 8 % 2 == 1) := by decide +kernel
theorem has_int4 : ∀ m : Fin 64, 1 ≤ m.val → hasF ((m.val : Nat) : Int) 4 = (((m.val : Nat) : Int) / 4 % 2 == 1) := by decide +kernel
theorem has_int5 : ∀ m : Fin 64, 1 ≤ m.val → hasF ((m.val : Nat) : Int) 5 = (((m.val : Nat) : Int) / 2 % 2 == 1) := by decide +kernel
theorem has_int6 : ∀ m : Fin 64, 1 ≤ m.val → hasF ((m.val : Nat) : Int) 6 = (((m.val : Nat) : Int) % 2 == 1) := by decide +kernel
theorem has_nat6 : ∀ m : Fin 64, 1 ≤ m.val → hasF ((m.val : Nat) : Int) 6 = (m.val % 2 == 1) := by decide +kernel
set_option maxRecDepth 100000 in
theorem pHas_any (w : World) (n b : Int) : Calls Tryd.prog 16 #[.int .i64 n, .int .i64 b] w fun e w' => e = .returned (.bool (hasF n b)) ∧ OnlyIn [] w w' := by
  by_cases h1 : 1 ≤ n
  · by_cases h2 : n ≤ 63
    · by_cases h3 : 1 ≤ b
      · by_cases h4 : b ≤ 6
        · obtain ⟨m, rfl⟩ := Int.eq_ofNat_of_zero_le (by omega : 0 ≤ n)
          have hm : m < 64 := by omega
          have hm1 : 1 ≤ m := by omega
          rcases (by omega : b = 1 ∨ b = 2 ∨ b = 3 ∨ b = 4 ∨ b = 5 ∨ b = 6) with rfl | rfl | rfl | rfl | rfl | rfl
          · have hb : (bits .and .i64 (m : Int) 32 != 0) = (m / 32 % 2 == 1) := has_and ⟨m, hm⟩ 5
            go_enter Tryd.func16, Tryd.ntmps16
            go_wp2_with fail
            go_ret
            refine ⟨?_, by (repeat (first | (with_reducible assumption) | (with_reducible exact OnlyIn.refl _ _) | (with_reducible refine OnlyIn.setCell ?_ (by first | simp | (simp; omega)) _) | (with_reducible refine OnlyIn.drewN ?_ _) | (with_reducible refine OnlyIn.drew ?_) | (with_reducible refine OnlyIn.alloc ?_ _)))⟩
            unfold hasF
            rw [decide_eq_true (show 1 ≤ (m : Int) ∧ (m : Int) ≤ 63 from ⟨h1, h2⟩), decide_eq_true (show (1 : Int) ≤ 1 ∧ (1 : Int) ≤ 6 by decide)]
            rfl
          · have hb : (bits .and .i64 (m : Int) 16 != 0) = (m / 16 % 2 == 1) := has_and ⟨m, hm⟩ 4
            go_enter Tryd.func16, Tryd.ntmps16
            go_wp2_with fail
            go_ret
            refine ⟨?_, by (repeat (first | (with_reducible assumption) | (with_reducible exact OnlyIn.refl _ _) | (with_reducible refine OnlyIn.setCell ?_ (by first | simp | (simp; omega)) _) | (with_reducible refine OnlyIn.drewN ?_ _) | (with_reducible refine OnlyIn.drew ?_) | (with_reducible refine OnlyIn.alloc ?_ _)))⟩
            unfold hasF
            rw [decide_eq_true (show 1 ≤ (m : Int) ∧ (m : Int) ≤ 63 from ⟨h1, h2⟩), decide_eq_true (show (1 : Int) ≤ 2 ∧ (2 : Int) ≤ 6 by decide)]
            rfl
          · have hb : (bits .and .i64 (m : Int) 8 != 0) = (m / 8 % 2 == 1) := has_and ⟨m, hm⟩ 3
            go_enter Tryd.func16, Tryd.ntmps16
            go_wp2_with fail
            go_ret
            refine ⟨?_, by (repeat (first | (with_reducible assumption) | (with_reducible exact OnlyIn.refl _ _) | (with_reducible refine OnlyIn.setCell ?_ (by first | simp | (simp; omega)) _) | (with_reducible refine OnlyIn.drewN ?_ _) | (with_reducible refine OnlyIn.drew ?_) | (with_reducible refine OnlyIn.alloc ?_ _)))⟩
            unfold hasF
            rw [decide_eq_true (show 1 ≤ (m : Int) ∧ (m : Int) ≤ 63 from ⟨h1, h2⟩), decide_eq_true (show (1 : Int) ≤ 3 ∧ (3 : Int) ≤ 6 by decide)]
            rfl
          · have hb : (bits .and .i64 (m : Int) 4 != 0) = (m / 4 % 2 == 1) := has_and ⟨m, hm⟩ 2
            go_enter Tryd.func16, Tryd.ntmps16
            go_wp2_with fail
            go_ret
            refine ⟨?_, by (repeat (first | (with_reducible assumption) | (with_reducible exact OnlyIn.refl _ _) | (with_reducible refine OnlyIn.setCell ?_ (by first | simp | (simp; omega)) _) | (with_reducible refine OnlyIn.drewN ?_ _) | (with_reducible refine OnlyIn.drew ?_) | (with_reducible refine OnlyIn.alloc ?_ _)))⟩
            unfold hasF
            rw [decide_eq_true (show 1 ≤ (m : Int) ∧ (m : Int) ≤ 63 from ⟨h1, h2⟩), decide_eq_true (show (1 : Int) ≤ 4 ∧ (4 : Int) ≤ 6 by decide)]
            rfl
          · have hb : (bits .and .i64 (m : Int) 2 != 0) = (m / 2 % 2 == 1) := has_and ⟨m, hm⟩ 1
            go_enter Tryd.func16, Tryd.ntmps16
            go_wp2_with fail
            go_ret
            refine ⟨?_, by (repeat (first | (with_reducible assumption) | (with_reducible exact OnlyIn.refl _ _) | (with_reducible refine OnlyIn.setCell ?_ (by first | simp | (simp; omega)) _) | (with_reducible refine OnlyIn.drewN ?_ _) | (with_reducible refine OnlyIn.drew ?_) | (with_reducible refine OnlyIn.alloc ?_ _)))⟩
            unfold hasF
            rw [decide_eq_true (show 1 ≤ (m : Int) ∧ (m : Int) ≤ 63 from ⟨h1, h2⟩), decide_eq_true (show (1 : Int) ≤ 5 ∧ (5 : Int) ≤ 6 by decide)]
            rfl
          · have hb : (bits .and .i64 (m : Int) 1 != 0) = (m / 1 % 2 == 1) := has_and ⟨m, hm⟩ 0
            rw [show hasF (m : Int) 6 = (m % 2 == 1) from has_nat6 ⟨m, hm⟩ hm1]
            go_enter Tryd.func16, Tryd.ntmps16
            go_wp2_with fail
            go_ret
            exact ⟨rfl, by (repeat (first | (with_reducible assumption) | (with_reducible exact OnlyIn.refl _ _) | (with_reducible refine OnlyIn.setCell ?_ (by first | simp | (simp; omega)) _) | (with_reducible refine OnlyIn.drewN ?_ _) | (with_reducible refine OnlyIn.drew ?_) | (with_reducible refine OnlyIn.alloc ?_ _)))⟩
        · rw [has_out (by omega)]
          go_enter Tryd.func16, Tryd.ntmps16
          go_wp2_with fail
          go_ret
          exact ⟨rfl, by (repeat (first | (with_reducible assumption) | (with_reducible exact OnlyIn.refl _ _) | (with_reducible refine OnlyIn.setCell ?_ (by first | simp | (simp; omega)) _) | (with_reducible refine OnlyIn.drewN ?_ _) | (with_reducible refine OnlyIn.drew ?_) | (with_reducible refine OnlyIn.alloc ?_ _)))⟩
      · rw [has_out (by omega)]
        go_enter Tryd.func16, Tryd.ntmps16
        go_wp2_with fail
        go_ret
        exact ⟨rfl, by (repeat (first | (with_reducible assumption) | (with_reducible exact OnlyIn.refl _ _) | (with_reducible refine OnlyIn.setCell ?_ (by first | simp | (simp; omega)) _) | (with_reducible refine OnlyIn.drewN ?_ _) | (with_reducible refine OnlyIn.drew ?_) | (with_reducible refine OnlyIn.alloc ?_ _)))⟩
    · rw [has_out (by omega)]
      go_enter Tryd.func16, Tryd.ntmps16
      go_wp2_with fail
      go_ret
      exact ⟨rfl, by (repeat (first | (with_reducible assumption) | (with_reducible exact OnlyIn.refl _ _) | (with_reducible refine OnlyIn.setCell ?_ (by first | simp | (simp; omega)) _) | (with_reducible refine OnlyIn.drewN ?_ _) | (with_reducible refine OnlyIn.drew ?_) | (with_reducible refine OnlyIn.alloc ?_ _)))⟩
  · rw [has_out (by omega)]
    go_enter Tryd.func16, Tryd.ntmps16
    go_wp2_with fail
    go_ret
    exact ⟨rfl, by (repeat (first | (with_reducible assumption) | (with_reducible exact OnlyIn.refl _ _) | (with_reducible refine OnlyIn.setCell ?_ (by first | simp | (simp; omega)) _) | (with_reducible refine OnlyIn.drewN ?_ _) | (with_reducible refine OnlyIn.drew ?_) | (with_reducible refine OnlyIn.alloc ?_ _)))⟩
set_option maxRecDepth 100000 in
theorem rpHas_any (w : World) (n b : Int) : Calls Tryd.prog 17 #[.int .i64 n, .int .i64 b] w fun e w' => e = .returned (.bool (hasF n b)) ∧ w = w' := by
  by_cases h1 : 1 ≤ n
  · by_cases h2 : n ≤ 63
    · by_cases h3 : 1 ≤ b
      · by_cases h4 : b ≤ 6
        · obtain ⟨m, rfl⟩ := Int.eq_ofNat_of_zero_le (by omega : 0 ≤ n)
          have hm : m < 64 := by omega
          have hm1 : 1 ≤ m := by omega
          rcases (by omega : b = 1 ∨ b = 2 ∨ b = 3 ∨ b = 4 ∨ b = 5 ∨ b = 6) with rfl | rfl | rfl | rfl | rfl | rfl
          · rw [show hasF (m : Int) 1 = ((m : Int) / 32 % 2 == 1) from has_int1 ⟨m, hm⟩ hm1]
            go_enter Tryd.func17, Tryd.ntmps17
            go_wp2_with fail
            go_ret
            exact ⟨rfl, rfl⟩
          · rw [show hasF (m : Int) 2 = ((m : Int) / 16 % 2 == 1) from has_int2 ⟨m, hm⟩ hm1]
            go_enter Tryd.func17, Tryd.ntmps17
            go_wp2_with fail
            go_ret
            exact ⟨rfl, rfl⟩
          · rw [show hasF (m : Int) 3 = ((m : Int) / 8 % 2 == 1) from has_int3 ⟨m, hm⟩ hm1]
            go_enter Tryd.func17, Tryd.ntmps17
            go_wp2_with fail
            go_ret
            exact ⟨rfl, rfl⟩
          · rw [show hasF (m : Int) 4 = ((m : Int) / 4 % 2 == 1) from has_int4 ⟨m, hm⟩ hm1]
            go_enter Tryd.func17, Tryd.ntmps17
            go_wp2_with fail
            go_ret
            exact ⟨rfl, rfl⟩
          · rw [show hasF (m : Int) 5 = ((m : Int) / 2 % 2 == 1) from has_int5 ⟨m, hm⟩ hm1]
            go_enter Tryd.func17, Tryd.ntmps17
            go_wp2_with fail
            go_ret
            exact ⟨rfl, rfl⟩
          · rw [show hasF (m : Int) 6 = ((m : Int) % 2 == 1) from has_int6 ⟨m, hm⟩ hm1]
            go_enter Tryd.func17, Tryd.ntmps17
            go_wp2_with fail
            go_ret
            exact ⟨rfl, rfl⟩
        · rw [has_out (by omega)]
          go_enter Tryd.func17, Tryd.ntmps17
          go_wp2_with fail
          go_ret
          exact ⟨rfl, rfl⟩
      · rw [has_out (by omega)]
        go_enter Tryd.func17, Tryd.ntmps17
        go_wp2_with fail
        go_ret
        exact ⟨rfl, rfl⟩
    · rw [has_out (by omega)]
      go_enter Tryd.func17, Tryd.ntmps17
      go_wp2_with fail
      go_ret
      exact ⟨rfl, rfl⟩
  · rw [has_out (by omega)]
    go_enter Tryd.func17, Tryd.ntmps17
    go_wp2_with fail
    go_ret
    exact ⟨rfl, rfl⟩
/-- How many of the first blocks a pattern says. -/
def cntTo (n : Int) : Nat → Nat
  | 0 => 0
  | k + 1 => cntTo n k + if hasF n ((k : Int) + 1) then 1 else 0
theorem cntTo_le (n : Int) : ∀ k, cntTo n k ≤ k
  | 0 => Nat.le_refl _
  | k + 1 => by have := cntTo_le n k; rw [cntTo]; split <;> omega
set_option maxRecDepth 100000 in
theorem pCount_any (w : World) (n : Int) : Calls Tryd.prog 18 #[.int .i64 n] w fun e w' => e = .returned (.int .i64 (cntTo n 6 : Int)) ∧ OnlyIn [] w w' := by
  go_enter Tryd.func18, Tryd.ntmps18
  go_wp2_with fail
  go_loopw [2, 4] (fun c i wr => ∃ k : Nat, k ≤ 6 ∧ i = .int .i64 (k : Int) ∧ c = .int .i64 (cntTo n k : Int) ∧ OnlyIn [] w wr) (fun _ i _ => 6 - (intOf i).toNat)
  case atStart => exact ⟨0, by omega, rfl, rfl, OnlyIn.refl _ _⟩
  case round =>
    obtain ⟨k, hk, rfl, rfl, hto⟩ := hrel
    by_cases hlt : k < 6
    · have hh := pHas_any wr n ((k : Int) + 1)
      have hle := cntTo_le n k
      have hck : cntTo n (k + 1) = cntTo n k + if hasF n ((k : Int) + 1) then 1 else 0 := rfl
      have hd : decide ((k : Int) < 6) = true := decide_eq_true (by omega)
      have hwk : IntKind.i64.wrap ((k : Int) + 1) = (k : Int) + 1 := by rw [IntKind.wrap_i64]; omega
      obtain ⟨z, hz⟩ : ∃ z, hasF n ((k : Int) + 1) = z := ⟨_, rfl⟩
      obtain ⟨q, hq⟩ : ∃ q, cntTo n k = q := ⟨_, rfl⟩
      have hwq : IntKind.i64.wrap ((q : Int) + 1) = (q : Int) + 1 := by rw [IntKind.wrap_i64]; omega
      rw [hz] at hh hck
      rw [hq] at hck ⊢
      have HH := Lib.hid (And.intro hto hck)
      clear hto hck hz hq
      cases z with
      | true =>
        go_wp2_with fail
        refine hh.mono ?_
        rintro e w1 ⟨rfl, ht1⟩
        go_wp2_with fail
        go_roundw
        case rel => exact ⟨k + 1, by omega, by go_num, by rw [HH.out.2]; simp, HH.out.1.trans ht1⟩
        case measure => simp [intOf]; omega
      | false =>
        go_wp2_with fail
        refine hh.mono ?_
        rintro e w1 ⟨rfl, ht1⟩
        go_wp2_with fail
        go_roundw
        case rel => exact ⟨k + 1, by omega, by go_num, by rw [HH.out.2]; simp, HH.out.1.trans ht1⟩
        case measure => simp [intOf]; omega
    · obtain rfl : k = 6 := by omega
      have HH := Lib.hid hto
      clear hto
      obtain ⟨q, hq⟩ : ∃ q, cntTo n 6 = q := ⟨_, rfl⟩
      rw [hq]
      have HQ := Lib.hid hq
      clear hq
      go_wp2_with fail
      go_ret
      exact ⟨by rw [HQ.out]; rfl, HH.out⟩
set_option maxRecDepth 100000 in
theorem rpCount_any (w : World) (n : Int) : Calls Tryd.prog 19 #[.int .i64 n] w fun e w' => e = .returned (.int .i64 (cntTo n 6 : Int)) ∧ w = w' := by
  go_enter Tryd.func19, Tryd.ntmps19
  go_wp2_with fail
  go_loopw [3, 4] (fun c i wr => ∃ k : Nat, k ≤ 6 ∧ i = .int .i64 ((k : Int) + 1) ∧ c = .int .i64 (cntTo n k : Int) ∧ w = wr) (fun _ i _ => 7 - (intOf i).toNat)
  case atStart => exact ⟨0, by omega, rfl, rfl, rfl⟩
  case round =>
    obtain ⟨k, hk, rfl, rfl, rfl⟩ := hrel
    by_cases hlt : k < 6
    · have hh := rpHas_any w n ((k : Int) + 1)
      have hle := cntTo_le n k
      have hck : cntTo n (k + 1) = cntTo n k + if hasF n ((k : Int) + 1) then 1 else 0 := rfl
      have hd : decide ((k : Int) + 1 ≤ 6) = true := decide_eq_true (by omega)
      have hwk : IntKind.i64.wrap ((k : Int) + 1 + 1) = (k : Int) + 1 + 1 := by rw [IntKind.wrap_i64]; omega
      obtain ⟨z, hz⟩ : ∃ z, hasF n ((k : Int) + 1) = z := ⟨_, rfl⟩
      obtain ⟨q, hq⟩ : ∃ q, cntTo n k = q := ⟨_, rfl⟩
      have hwq : IntKind.i64.wrap ((q : Int) + 1) = (q : Int) + 1 := by rw [IntKind.wrap_i64]; omega
      rw [hz] at hh hck
      rw [hq] at hck ⊢
      have HH := Lib.hid hck
      clear hck hz hq
      cases z with
      | true =>
        go_wp2_with fail
        refine hh.mono ?_
        rintro e w' ⟨rfl, rfl⟩
        go_wp2_with fail
        go_roundw
        case rel => exact ⟨k + 1, by omega, by go_num, by rw [HH.out]; simp, by trivial⟩
        case measure => simp [intOf]; omega
      | false =>
        go_wp2_with fail
        refine hh.mono ?_
        rintro e w' ⟨rfl, rfl⟩
        go_wp2_with fail
        go_roundw
        case rel => exact ⟨k + 1, by omega, by go_num, by rw [HH.out]; simp, by trivial⟩
        case measure => simp [intOf]; omega
    · obtain rfl : k = 6 := by omega
      obtain ⟨q, hq⟩ : ∃ q, cntTo n 6 = q := ⟨_, rfl⟩
      rw [hq]
      have HQ := Lib.hid hq
      clear hq
      go_wp2_with fail
      go_ret
      exact ⟨by rw [HQ.out]; rfl, rfl⟩
end Go.Proofs.YteblkjmeaojegaaDoor
