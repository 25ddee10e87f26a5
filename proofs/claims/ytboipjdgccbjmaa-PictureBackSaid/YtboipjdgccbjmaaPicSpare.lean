/-
  Package picture: the cursor's spare bytes, one after another.
-/
import Derived.Test.YtboipjdgccbjmaaPicTake
import Derived.Test.YtboipjdgccbjmaaTail
import Derived.Test.YtboipjdgccbjmaaSpares
import Derived.Test.YtboipjdgccbjmaaOwn
namespace Go.Proofs.Ytboipjdgccbjmaa
open Go.RowKit Go.Mine Go.Shelf

attribute [local go_sem] Oper.semAt_some

set_option maxRecDepth 100000 in
theorem spare_any (w : World) (cb : Nat) :
    Calls Try.prog 56 #[.pointer (some ⟨cb, 0, none⟩)] w fun e w' => e = .returned (.func (.func 77) #[] #[.pointer (some ⟨w.heap.size, 0, none⟩)]) ∧ w.alloc (.cells #[.pointer (some ⟨cb, 0, none⟩)] 84) = w' := by
  have hmf : ∀ (fn : Fn) (first cap : Array Value) (w : World), (Instr.makeFunc fn first cap).run Try.prog w = .ok (.func fn first cap) w := fun _ _ _ _ => rfl
  go_enter Try.func56, Try.ntmps56
  go_wp2
  go_ret
  exact ⟨rfl, rfl⟩

set_option maxHeartbeats 1000000 in
set_option maxRecDepth 100000 in
theorem spare1_any (l cb bx p : Nat) (v : Value) (bs : List UInt8) (hl : bs.length ≤ 1000000000) (C : Nat → World → Prop)
    (hR : ∀ k W, C k W → Blk W bx 84 [.pointer (some ⟨cb, 0, none⟩)] ∧ Rd W 1 v bs.length (byteCells bs))
    (hS : ∀ k W W', OnlyIn [cb] W W' → C k W → C k W')
    (hY : ∀ k W, k < 32 → numAt bs (p + 9 * k) 1 ≠ 0 → p + 9 * k + 9 ≤ 8 * bs.length → Cur W cb v ((p + 9 * k + 9 : Nat) : Int) 0 → C k W → YieldAt Fence.wide 0 Try.prog l #[.int .u8 (numAt bs (p + 9 * k + 1) 8 : Int)] W fun e W' =>
      e = .returned (.bool true) ∧ Cur W' cb v ((p + 9 * k + 9 : Nat) : Int) 0 ∧ C (k + 1) W')
    (W : World) (hp : p ≤ 8 * bs.length) (h0 : Cur W cb v (p : Int) 0) (hC : C 0 W) :
    Calls Try.prog 77 #[.func (.yield l) #[] #[], .pointer (some ⟨bx, 0, none⟩)] W fun e W' => (∃ v, e = .returned v) ∧
      ∃ (k : Nat) (a bad : Int), k ≤ 32 ∧ Cur W' cb v a bad ∧ C k W' ∧ ((bad = 0 ∧ a = ((p + 9 * k + 1 : Nat) : Int) ∧ sparesF bs (32 - k) (p + 9 * k) = (0, []) ∧ p + 9 * k + 1 ≤ 8 * bs.length) ∨ (bad ≠ 0 ∧ (sparesF bs (32 - k) (p + 9 * k)).1 = bad)) := by
  have hmix := Try.mixed
  have hmf : ∀ (fn : Fn) (first cap : Array Value) (w : World), (Instr.makeFunc fn first cap).run Try.prog w = .ok (.func fn first cap) w := fun _ _ _ _ => rfl
  obtain ⟨A, c, rfl⟩ : ∃ A c, v = .slice A bs.length c := by
    obtain ⟨-, A, c, rfl, -⟩ := (hR 0 W hC).2
    exact ⟨A, c, rfl⟩
  have HR := Lib.hid hR
  have HS := Lib.hid hS
  have HY := Lib.hid hY
  have b0 := (hR 0 W hC).1.cell (i := 0) rfl
  clear hR hS hY
  refine (callsIn_wide (n := 0)).1 ?_
  refine callsIn_of_wp Try.func77 rfl trivial ?_ rfl
  simp only [Try.ntmps77, List.size_toArray, List.length_cons, List.length_nil, Nat.reduceAdd, Nat.reduceSub, Array.replicate_succ, Array.replicate_zero, List.push_toArray, List.append_toArray, List.nil_append, List.cons_append]
  gi_wp2_with fail
  gi_loopw [4, 5] (fun m _ wr => ∃ k : Nat, k ≤ 32 ∧ m = .int .i64 (k : Int) ∧ Cur wr cb (.slice A bs.length c) ((p + 9 * k : Nat) : Int) 0 ∧ p + 9 * k ≤ 8 * bs.length ∧ C k wr) (fun m _ _ => 33 - (intOf m).toNat)
  case atStart => exact ⟨0, by omega, rfl, h0, by omega, hC⟩
  case round =>
    clear h0 hC b0
    obtain ⟨k, hk, rfl, hb, hp9, hc⟩ := hrel
    have hrd := (HR.out k wr hc).2
    by_cases hm1 : 8 * bs.length < p + 9 * k + 1
    · have ht := take_more wr cb (.slice A bs.length c) bs (p + 9 * k) 1 hb hrd hl (by omega) (by omega) hm1
      rw [show ((1 : Nat) : Int) = 1 from rfl] at ht
      have hsp := sparesF_more (r := 32 - k) hm1
      have HH := Lib.hid (And.intro hsp hc)
      clear hsp hc hb hrd
      gi_wp2_with fail
      refine ⟨trivial, rfl, callsIn_wide.2 (ht.mono ?_)⟩
      rintro e w2 ⟨rfl, hb2, ht2⟩
      clear ht
      gi_wp2_with fail
      go_end0
      exact ⟨⟨_, rfl⟩, k, _, _, hk, hb2, HS.out k _ _ ht2 HH.out.2, .inr ⟨by decide, by rw [HH.out.1]⟩⟩
    · have ht := take_ok wr cb (.slice A bs.length c) bs (p + 9 * k) 1 hb hrd hl (by omega) (by omega)
      rw [show ((1 : Nat) : Int) = 1 from rfl] at ht
      have hz := numAt_lt bs (p + 9 * k) 1
      obtain ⟨z, hze⟩ : ∃ z, numAt bs (p + 9 * k) 1 = z := ⟨_, rfl⟩
      rw [hze] at ht hz
      rcases (by omega : z = 0 ∨ z = 1) with rfl | rfl
      · have hsp := sparesF_end (r := 32 - k) hm1 hze
        have HH := Lib.hid (And.intro hsp hc)
        rw [show ((0 : Nat) : Int) = 0 from rfl] at ht
        clear hsp hc hb hrd
        gi_wp2_with fail
        refine ⟨trivial, rfl, callsIn_wide.2 (ht.mono ?_)⟩
        rintro e w2 ⟨rfl, hb2, ht2⟩
        clear ht
        gi_wp2_with fail
        go_end0
        exact ⟨⟨_, rfl⟩, k, _, _, hk, hb2, HS.out k _ _ ht2 HH.out.2, .inl ⟨rfl, rfl, HH.out.1, by omega⟩⟩
      · have h10 : ¬ numAt bs (p + 9 * k) 1 = 0 := by omega
        rw [show ((1 : Nat) : Int) = 1 from rfl] at ht
        have HZ := Lib.hid (And.intro hze h10)
        clear hze h10
        by_cases hk32 : k = 32
        · subst hk32
          have hsp := sparesF_long hm1 HZ.out.2
          have HH := Lib.hid (And.intro hsp hc)
          have hri := (HR.out 32 wr hc).1
          clear hsp hc hb hrd
          gi_wp2_with fail
          refine ⟨trivial, rfl, callsIn_wide.2 (ht.mono ?_)⟩
          rintro e w2 ⟨rfl, hb2, ht2⟩
          have hc2 := HS.out 32 _ _ ht2 HH.out.2
          have d0 := (HR.out 32 _ hc2).1.cell (i := 0) rfl
          have e2 := hb2.cell (i := 2) rfl
          have f2 := hb2.free 2
          have HB2 := Lib.hid (And.intro hb2 hc2)
          clear ht hri hb2 hc2
          gi_wp2_with fail
          refine bodyPost_ret (results_none rfl _ _ _) rfl ?_
          exact ⟨⟨_, rfl⟩, 32, _, _, Nat.le_refl _, HB2.out.1.set 2 (.int .i64 4), HS.out 32 _ _ ((OnlyIn.refl [cb] _).setCell (p := ⟨cb, 2, none⟩) (.inl (by simp)) _) HB2.out.2, .inr ⟨by decide, by rw [Nat.sub_self, HH.out.1]⟩⟩
        · have hk33 : ((k : Int) == 32) = false := by simp; omega
          have hklt : k < 32 := by omega
          obtain ⟨r, hr32⟩ : ∃ r, 32 - k = r + 1 := ⟨31 - k, by omega⟩
          gi_wp2_with fail
          refine ⟨trivial, rfl, callsIn_wide.2 (ht.mono ?_)⟩
          rintro e w2 ⟨rfl, hb2, ht2⟩
          have hc2 := HS.out k _ _ ht2 hc
          have hrd2 := (HR.out k _ hc2).2
          clear ht hb hrd hc ht2
          by_cases hm9 : 8 * bs.length < p + 9 * k + 9
          · have ht8 := take_more w2 cb (.slice A bs.length c) bs (p + 9 * k + 1) 8 hb2 hrd2 hl (by omega) (by omega) (by omega)
            rw [show ((8 : Nat) : Int) = 8 from rfl] at ht8
            have hsp := sparesF_more9 (r := r) hm1 HZ.out.2 hm9
            rw [← hr32] at hsp
            have HH := Lib.hid (And.intro hsp hc2)
            clear hsp hb2 hc2 hrd2
            gi_wp2_with fail
            refine ⟨trivial, rfl, callsIn_wide.2 (ht8.mono ?_)⟩
            rintro e w3 ⟨rfl, hb3, ht3⟩
            have hc3 := HS.out k _ _ ht3 HH.out.2
            have d0 := (HR.out k _ hc3).1.cell (i := 0) rfl
            have e2 := hb3.cell (i := 2) rfl
            have HB3 := Lib.hid (And.intro hb3 hc3)
            clear ht8 hb3 hc3 ht3
            gi_wp2_with fail
            refine ⟨fun f h => (by cases h), ?_⟩
            gi_wp2_with fail
            refine bodyPost_ret (results_none rfl _ _ _) rfl ?_
            exact ⟨⟨_, rfl⟩, k, _, _, hk, HB3.out.1, HB3.out.2, .inr ⟨by decide, by rw [HH.out.1]⟩⟩
          · have ht8 := take_ok w2 cb (.slice A bs.length c) bs (p + 9 * k + 1) 8 hb2 hrd2 hl (by omega) (by omega)
            rw [show ((8 : Nat) : Int) = 8 from rfl] at ht8
            have hx := numAt_lt bs (p + 9 * k + 1) 8
            have HH := Lib.hid hc2
            clear hb2 hc2 hrd2
            gi_wp2_with fail
            refine ⟨trivial, rfl, callsIn_wide.2 (ht8.mono ?_)⟩
            rintro e w3 ⟨rfl, hb3, ht3⟩
            have hc3 := HS.out k _ _ ht3 HH.out
            have d0 := (HR.out k _ hc3).1.cell (i := 0) rfl
            have e2 := hb3.cell (i := 2) rfl
            obtain ⟨fn, tmps, assign, body, hy, hRo⟩ := HY.out k w3 hklt HZ.out.2 (by omega) hb3 hc3
            have HB3 := Lib.hid (And.intro hb3 hc3)
            clear ht8 hb3 hc3 ht3
            obtain ⟨x, hxe⟩ : ∃ x, numAt bs (p + 9 * k + 1) 8 = x := ⟨_, rfl⟩
            rw [hxe] at hx hy ⊢
            have hw8 : IntKind.u8.wrap (x : Int) = (x : Int) := by rw [IntKind.wrap_u8]; omega
            clear hxe
            gi_wp2_with fail
            refine ⟨rfl, hRo.mono ?_⟩
            rintro e w4 ⟨rfl, hb4, hc4⟩
            clear hy hRo
            gi_wp2_with fail
            go_roundw
            case rel => exact ⟨k + 1, by omega, by go_num, hb4, by omega, hc4⟩
            case measure => simp [intOf]; omega

set_option maxRecDepth 100000 in
set_option maxRecDepth 100000 in
/-- Behind a fault none is told. -/
theorem spare1_bad (l cb bx : Nat) (v : Value) (a bad : Int) (hb0 : bad ≠ 0) (W : World) (h0 : Cur W cb v a bad) (hx : Blk W bx 84 [.pointer (some ⟨cb, 0, none⟩)]) :
    Calls Try.prog 77 #[.func (.yield l) #[] #[], .pointer (some ⟨bx, 0, none⟩)] W fun e W' => (∃ v, e = .returned v) ∧ W = W' := by
  have hmf : ∀ (fn : Fn) (first cap : Array Value) (w : World), (Instr.makeFunc fn first cap).run Try.prog w = .ok (.func fn first cap) w := fun _ _ _ _ => rfl
  have b0 := hx.cell (i := 0) rfl
  have ht := take_bad W cb v a bad 1 h0 hb0
  clear hx h0
  refine (callsIn_wide (n := 0)).1 ?_
  refine callsIn_of_wp Try.func77 rfl trivial ?_ rfl
  simp only [Try.ntmps77, List.size_toArray, List.length_cons, List.length_nil, Nat.reduceAdd, Nat.reduceSub, Array.replicate_succ, Array.replicate_zero, List.push_toArray, List.append_toArray, List.nil_append, List.cons_append]
  gi_wp2_with fail
  gi_loopw [4, 5] (fun _ _ wr => W = wr) (fun _ _ _ => 0)
  case atStart => exact rfl
  case round =>
    subst hrel
    gi_wp2_with fail
    refine ⟨trivial, rfl, callsIn_wide.2 (ht.mono ?_)⟩
    rintro e w2 ⟨rfl, rfl⟩
    clear ht
    gi_wp2_with fail
    go_end0
    exact ⟨⟨_, rfl⟩, rfl⟩
theorem spare1_both (l cb bx p : Nat) (v : Value) (bs : List UInt8) (hl : bs.length ≤ 1000000000) (C : Nat → World → Prop) (a bad : Int)
    (hR : ∀ k W, C k W → Blk W bx 84 [.pointer (some ⟨cb, 0, none⟩)] ∧ Rd W 1 v bs.length (byteCells bs))
    (hS : ∀ k W W', OnlyIn [cb] W W' → C k W → C k W')
    (hY : ∀ k W, k < 32 → numAt bs (p + 9 * k) 1 ≠ 0 → p + 9 * k + 9 ≤ 8 * bs.length → Cur W cb v ((p + 9 * k + 9 : Nat) : Int) 0 → C k W → YieldAt Fence.wide 0 Try.prog l #[.int .u8 (numAt bs (p + 9 * k + 1) 8 : Int)] W fun e W' =>
      e = .returned (.bool true) ∧ Cur W' cb v ((p + 9 * k + 9 : Nat) : Int) 0 ∧ C (k + 1) W')
    (W : World) (hp : bad = 0 → a = (p : Int) ∧ p ≤ 8 * bs.length) (h0 : Cur W cb v a bad) (hC : C 0 W) :
    Calls Try.prog 77 #[.func (.yield l) #[] #[], .pointer (some ⟨bx, 0, none⟩)] W fun e W' => (∃ v, e = .returned v) ∧
      ∃ (k : Nat) (a' bad' : Int), k ≤ 32 ∧ Cur W' cb v a' bad' ∧ C k W' ∧ ((bad = 0 ∧ ((bad' = 0 ∧ a' = ((p + 9 * k + 1 : Nat) : Int) ∧ sparesF bs (32 - k) (p + 9 * k) = (0, []) ∧ p + 9 * k + 1 ≤ 8 * bs.length) ∨ (bad' ≠ 0 ∧ (sparesF bs (32 - k) (p + 9 * k)).1 = bad'))) ∨ (bad ≠ 0 ∧ bad' = bad)) := by
  by_cases hb : bad = 0
  · obtain ⟨rfl, hp8⟩ := hp hb
    subst hb
    exact (spare1_any l cb bx p v bs hl C hR hS hY W hp8 h0 hC).mono fun e W' ⟨h1, k, a, b, h2, h3, h4, h5⟩ => ⟨h1, k, a, b, h2, h3, h4, .inl ⟨rfl, h5⟩⟩
  · exact (spare1_bad l cb bx v a bad hb W h0 (hR 0 W hC).1).mono fun e W' ⟨h1, h2⟩ => ⟨h1, 0, a, bad, by omega, by rw [← h2]; exact h0, by rw [← h2]; exact hC, .inr ⟨hb, rfl⟩⟩
end Go.Proofs.Ytboipjdgccbjmaa
