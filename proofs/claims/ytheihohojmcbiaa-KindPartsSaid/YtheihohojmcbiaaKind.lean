/-
  Package kind: Get, Put, Of; the reference for layer 5.
-/
import Derived.Test.YtheihohojmcbiaaKindTree
import Derived.Test.YtheihohojmcbiaaPrefixGet
import Derived.Test.YtheihohojmcbiaaPrefixLaw
import Derived.Test.YtheihohojmcbiaaOwn
namespace Go.Mine
/-- What a tree answers to any place. -/
def getT (t : List TNode) (bs : List UInt8) (i : Int) : Int × Int × Int := if i < 0 then (0, 0, 3) else getF t 0 0 (bitsFrom bs i.toNat)
end Go.Mine
namespace Go.Proofs.Ytheihohojmcbiaa
open Go.RowKit Go.Mine Go.Shelf

attribute [local go_sem] Oper.semAt_some

set_option maxRecDepth 100000 in
theorem TGetT (w : World) {base b mb n m : Nat} {tv : Value} {t : List TNode} {f : Int → Option ByteArray} (h : Tr w base b tv mb n t f m) (hm : 0 < m) (v : Value) (bs : List UInt8) (hr : Rd w 1 v bs.length (byteCells bs)) (hl : bs.length ≤ 1000000000) (i : Int) (hi : i ≤ 9223372036854775807) :
    Calls Try.prog 49 #[.pointer (some ⟨b, 0, none⟩), v, .int .i64 i] w fun e w' => e = .returned (.tuple #[.int .i64 (getT t bs i).1, .int .i64 (getT t bs i).2.1, .int .i64 (getT t bs i).2.2]) ∧ OnlyIn [] w w' := by
  unfold getT
  by_cases hn : i < 0
  · rw [if_pos hn]
    obtain ⟨-, A, c, rfl, -⟩ := hr
    exact TGet_neg w h hm A _ c i hn
  · rw [if_neg hn]
    obtain ⟨k, rfl⟩ := Int.eq_ofNat_of_zero_le (by omega : 0 ≤ i)
    exact TGet_any w h hm v bs hr hl k (by omega)
set_option maxRecDepth 100000 in
theorem rGetT (w : World) {base b : Nat} {tv tu : Value} {cs : List (List UInt8)} {ns : List Int} (h : RT w base b tv tu cs ns) (hl : cs.length = ns.length) (hN : cs.length ≤ 1000000) (hs : ∀ s ∈ cs, s.length ≤ 1000000)
    (h0 : 0 < cs.length) (hc : cs.all codeB = true) {t : List TNode} (hb : build [TNode.mt] (kvOf (cs.zip ns)) = some t)
    (v : Value) (bs : List UInt8) (hr : Rd w 1 v bs.length (byteCells bs)) (hbl : bs.length ≤ 1000000000) (i : Int) (hi : i ≤ 9223372036854775807) :
    Calls Try.prog 51 #[.pointer (some ⟨b, 0, none⟩), v, .int .i64 i] w fun e w' => e = .returned (.tuple #[.int .i64 (getT t bs i).1, .int .i64 (getT t bs i).2.1, .int .i64 (getT t bs i).2.2]) ∧ OnlyIn [] w w' := by
  unfold getT
  by_cases hn : i < 0
  · rw [if_pos hn]
    obtain ⟨-, A, c, rfl, -⟩ := hr
    exact rGet_neg w _ A _ c i hn
  · rw [if_neg hn]
    obtain ⟨k, rfl⟩ := Int.eq_ofNat_of_zero_le (by omega : 0 ≤ i)
    have := rGet_any w h hl hN hs v bs hr hbl k (by omega)
    rw [Int.toNat_natCast, getF_ref hl h0 hc hb bs k]
    exact this

set_option maxRecDepth 100000 in
theorem kGet_any (w : World) (v : Value) (bs : List UInt8) (hr : Rd w 1 v bs.length (byteCells bs)) (hl : bs.length ≤ 1000000000) (i : Int) (hi : i ≤ 9223372036854775807) :
    Calls Try.prog 15 #[v, .int .i64 i] w fun e w' => e = .returned (.tuple #[.int .i64 (getT KT bs i).1, .int .i64 (getT KT bs i).2.1, .int .i64 (getT KT bs i).2.2]) ∧ OnlyIn [] w w' := by
  have ht := ktree_any w
  obtain ⟨A, c, rfl⟩ : ∃ A c, v = .slice A bs.length c := by
    obtain ⟨-, A, c, rfl, -⟩ := hr
    exact ⟨A, c, rfl⟩
  have hg := fun w1 {base b tv mb} (ho : OnlyIn [] w w1) (hT : Tr w1 base b tv mb 10 KT (told kz) 10) => TGetT w1 hT (by decide) _ bs (hr.cells fun p u hp => ho.cell hp (by simp)) hl i hi
  obtain ⟨⟨x, m, er⟩, hx⟩ : ∃ x, getT KT bs i = x := ⟨_, rfl⟩
  rw [hx] at hg ⊢
  simp only at hg ⊢
  clear hx hr
  go_enter Try.func15, Try.ntmps15
  go_wp2_with (first | (go_at_call 48; refine ht.mono ?_; rintro e w1 ⟨b, tv, mb, rfl, hT, h1⟩) | (go_at_call 49; refine (hg _ h1 hT).mono ?_; rintro e w2 ⟨rfl, h2⟩))
  go_ret3
  exact ⟨rfl, h1.trans h2⟩

set_option maxRecDepth 100000 in
theorem kPut_any (w : World) (x : Int) (hx : -9223372036854775808 ≤ x ∧ x ≤ 9223372036854775807) :
    Calls Try.prog 18 #[.int .i64 x] w fun e w' => e = .returned (.tuple #[.string (putOf (told kz) x).1, .int .i64 (putOf (told kz) x).2]) ∧ OnlyIn [] w w' := by
  have ht := ktree_any w
  have hg := fun w1 {base b tv mb} (hT : Tr w1 base b tv mb 10 KT (told kz) 10) => TPut_any w1 hT (by decide) x hx
  obtain ⟨⟨s, er⟩, hx⟩ : ∃ y, putOf (told kz) x = y := ⟨_, rfl⟩
  rw [hx] at hg ⊢
  simp only at hg ⊢
  clear hx
  go_enter Try.func18, Try.ntmps18
  go_wp2_with (first | (go_at_call 48; refine ht.mono ?_; rintro e w1 ⟨b, tv, mb, rfl, hT, h1⟩) | (go_at_call 52; refine (hg _ hT).mono ?_; rintro e w2 ⟨rfl, h2⟩))
  go_ret2
  exact ⟨rfl, h1.trans h2⟩

set_option maxRecDepth 100000 in
theorem rkcodes_any (w : World) : Calls Try.prog 70 #[] w fun e w' => ∃ v, e = .returned v ∧ Rd w' 1 v kcodes.length (txtCells kcodes) ∧ OnlyIn [] w w' := by
  go_enter Try.func70, Try.ntmps70
  go_wp2_with fail
  go_ret
  exact ⟨_, rfl, Rd.lit (size := 1) w (txtCells kcodes) 9 10 rfl, (OnlyIn.refl _ _).alloc _⟩

set_option maxRecDepth 100000 in
theorem rkTree_any (w : World) : Calls Try.prog 50 #[] w fun e w' => ∃ b v u, e = .returned (.pointer (some ⟨b, 0, none⟩)) ∧ RT w' w.heap.size b v u kcodes knums ∧ OnlyIn [] w w' := by
  have hc := rkcodes_any w
  go_enter Try.func50, Try.ntmps50
  go_wp2_with (go_at_call 70; refine hc.mono ?_; rintro e w1 ⟨v, rfl, hv, h1⟩)
  have hn := Rd.lit (size := 1) w1 (intCells knums) 3 10 rfl
  have ho : OnlyIn [] w1 (w1.alloc (.cells (intCells knums).toArray 3)) := (OnlyIn.refl _ _).alloc _
  have hmk := rMake_any _ v _ kcodes knums (hv.cells fun p u hp => ho.cell hp (by simp)) hn (by decide) (by decide) (by decide)
  obtain ⟨-, A, c, rfl, -⟩ := hv
  refine hmk.mono ?_
  rintro e w2 ⟨ho2, h⟩
  rcases h with ⟨hbad, -⟩ | ⟨-, ⟨hcl, -⟩ | ⟨-, b, tv, tu, rfl, hRT⟩⟩
  · exfalso
    rcases hbad with hbad | hbad | hbad | hbad
    · exact hbad (by decide)
    · exact absurd hbad (by decide)
    · exact absurd hbad (by decide)
    · rw [kcodes_ok] at hbad; cases hbad
  · exfalso
    rcases build_iff (cs := kcodes) (ns := knums) (by decide) kcodes_ok with ⟨h, -⟩ | ⟨t, lab, -, h, -⟩
    · rw [kbuild] at h; cases h
    · exact h hcl
  clear hmk hn
  go_wp2_with fail
  go_ret
  exact ⟨b, tv, tu, rfl, ⟨hRT.blk, hRT.sc.mono (by have := h1.size; simp; omega), hRT.sn.mono (by have := h1.size; simp; omega), by have := h1.size; have := hRT.bb; simp at this; omega⟩, (h1.trans ho).trans ho2⟩

set_option maxRecDepth 100000 in
theorem rkGet_any (w : World) (v : Value) (bs : List UInt8) (hr : Rd w 1 v bs.length (byteCells bs)) (hl : bs.length ≤ 1000000000) (i : Int) (hi : i ≤ 9223372036854775807) :
    Calls Try.prog 16 #[v, .int .i64 i] w fun e w' => e = .returned (.tuple #[.int .i64 (getT KT bs i).1, .int .i64 (getT KT bs i).2.1, .int .i64 (getT KT bs i).2.2]) ∧ OnlyIn [] w w' := by
  have ht := rkTree_any w
  obtain ⟨A, c, rfl⟩ : ∃ A c, v = .slice A bs.length c := by
    obtain ⟨-, A, c, rfl, -⟩ := hr
    exact ⟨A, c, rfl⟩
  have hg := fun w1 {base b tv tu} (ho : OnlyIn [] w w1) (hT : RT w1 base b tv tu kcodes knums) => rGetT w1 hT (by decide) (by decide) (by decide) (by decide) kcodes_ok kbuild _ bs (hr.cells fun p u hp => ho.cell hp (by simp)) hl i hi
  obtain ⟨⟨x, m, er⟩, hx⟩ : ∃ x, getT KT bs i = x := ⟨_, rfl⟩
  rw [hx] at hg ⊢
  simp only at hg ⊢
  clear hx hr
  go_enter Try.func16, Try.ntmps16
  go_wp2_with (first | (go_at_call 50; refine ht.mono ?_; rintro e w1 ⟨b, tv, tu, rfl, hT, h1⟩) | (go_at_call 51; refine (hg _ h1 hT).mono ?_; rintro e w2 ⟨rfl, h2⟩))
  go_ret3
  exact ⟨rfl, h1.trans h2⟩

set_option maxRecDepth 100000 in
theorem rkPut_any (w : World) (x : Int) :
    Calls Try.prog 19 #[.int .i64 x] w fun e w' => e = .returned (.tuple #[.string (putOf (told kz) x).1, .int .i64 (putOf (told kz) x).2]) ∧ OnlyIn [] w w' := by
  have ht := rkTree_any w
  have hg := fun w1 {base b tv tu} (hT : RT w1 base b tv tu kcodes knums) => rPut_any w1 hT (by decide) (by decide) x
  obtain ⟨⟨s, er⟩, hx⟩ : ∃ y, putOf (told kz) x = y := ⟨_, rfl⟩
  unfold kz at hx
  rw [hx] at hg
  unfold kz
  rw [hx]
  simp only at hg ⊢
  clear hx
  go_enter Try.func19, Try.ntmps19
  go_wp2_with (first | (go_at_call 50; refine ht.mono ?_; rintro e w1 ⟨b, tv, tu, rfl, hT, h1⟩) | (go_at_call 53; refine (hg _ hT).mono ?_; rintro e w2 ⟨rfl, rfl⟩))
  go_ret2
  exact ⟨rfl, h1⟩
end Go.Proofs.Ytheihohojmcbiaa
