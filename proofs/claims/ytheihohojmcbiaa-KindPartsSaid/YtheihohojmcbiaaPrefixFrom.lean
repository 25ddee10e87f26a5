/-
  Package prefix: from; Put, Codes; no tree.
-/
import Derived.Test.YtheihohojmcbiaaPrefixMake
import Derived.Test.YtheihohojmcbiaaReadAll
import Derived.Test.YtheihohojmcbiaaTwo
namespace Go.Proofs.Ytheihohojmcbiaa
open Go.RowKit Go.Mine Go.Shelf

attribute [local go_sem] Oper.semAt_some

set_option maxRecDepth 100000 in
theorem pfrom_any (w : World) (v : Value) (A : Option Addr) (n c : Nat) (hv : v = .slice A n c) (at_ : Int) :
    Calls Try.prog 69 #[v, .int .i64 at_] w fun e w' => e = .returned (.func (.func 82) #[] #[.pointer (some ⟨w.heap.size, 0, none⟩), .pointer (some ⟨w.heap.size + 1, 0, none⟩)]) ∧ (w.alloc (.cells #[v] 22)).alloc (.cells #[.int .i64 at_] 3) = w' := by
  subst hv
  have hmf : ∀ (fn : Fn) (first cap : Array Value) (w : World), (Instr.makeFunc fn first cap).run Try.prog w = .ok (.func fn first cap) w := fun _ _ _ _ => rfl
  go_enter Try.func69, Try.ntmps69
  go_wp2
  go_ret
  exact ⟨rfl, rfl⟩

set_option maxRecDepth 100000 in
/-- The iterator: for every body that keeps the bytes and the place. -/
theorem pfrom1_any (l Bb Ba i0 : Nat) (hi0 : i0 ≤ 9223372036854775807) (v : Value) (bs : List UInt8) (hl : bs.length ≤ 1000000000) (C Jx : Nat → World → Prop)
    (hR : ∀ k W, C k W → Blk W Bb 22 [v] ∧ Rd W 1 v bs.length (byteCells bs))
    (hS : ∀ k u x W, Blk W Ba 3 [x] → C k W → C k (W.setCell ⟨Ba, 0, none⟩ u))
    (hY : ∀ k W, i0 + k < 8 * bs.length → Blk W Ba 3 [.int .i64 ((i0 + k : Nat) : Int)] → C k W → YieldAt Fence.wide 0 Try.prog l #[.int .i64 (bitAt bs (i0 + k) : Int)] W fun e W' =>
      (e = .returned (.bool true) ∧ Blk W' Ba 3 [.int .i64 ((i0 + k : Nat) : Int)] ∧ C (k + 1) W') ∨ (e = .returned (.bool false) ∧ Jx k W'))
    (W : World) (h0 : Blk W Ba 3 [.int .i64 (i0 : Int)]) (hC : C 0 W) :
    Calls Try.prog 82 #[.func (.yield l) #[] #[], .pointer (some ⟨Bb, 0, none⟩), .pointer (some ⟨Ba, 0, none⟩)] W fun e W' => (∃ v, e = .returned v) ∧ (C (8 * bs.length - i0) W' ∨ ∃ k, i0 + k < 8 * bs.length ∧ Jx k W') := by
  obtain ⟨A, c, rfl⟩ : ∃ A c, v = .slice A bs.length c := by
    obtain ⟨-, A, c, rfl, -⟩ := (hR 0 W hC).2
    exact ⟨A, c, rfl⟩
  have HR := Lib.hid hR
  have HS := Lib.hid hS
  have HY := Lib.hid hY
  clear hR hS hY
  refine (callsIn_wide (n := 0)).1 ?_
  refine callsIn_of_wp Try.func82 rfl trivial ?_ rfl
  simp only [Try.ntmps82, List.size_toArray, List.length_cons, List.length_nil, Nat.reduceAdd, Nat.reduceSub, Array.replicate_succ, Array.replicate_zero, List.push_toArray, List.append_toArray, List.nil_append, List.cons_append]
  gi_wp2_with fail
  gi_loopw [4, 5] (fun _ _ wr => ∃ k : Nat, (k = 0 ∨ i0 + k ≤ 8 * bs.length) ∧ Blk wr Ba 3 [.int .i64 ((i0 + k : Nat) : Int)] ∧ C k wr) (fun _ _ wr => toGo (8 * bs.length) Ba wr)
  case atStart => exact ⟨0, .inl rfl, h0, hC⟩
  case round =>
    clear h0 hC
    obtain ⟨k, hk, hb, hc⟩ := hrel
    have c0 := hb.cell (i := 0) rfl
    obtain ⟨hbb, hrd⟩ := HR.out k wr hc
    have d0 := hbb.cell (i := 0) rfl
    obtain ⟨p, hp⟩ : ∃ p, i0 + k = p := ⟨_, rfl⟩
    by_cases hlt : p < 8 * bs.length
    · have hread := Read_ok wr _ bs hrd hl p 1 (by omega) (by omega)
      have hy0 := HY.out k wr (by omega) hb hc
      rw [hp] at hy0 c0 hb
      have hn1 : numAt bs p 1 = bitAt bs p := by simp [numAt]
      rw [hn1, show ((1 : Nat) : Int) = 1 from rfl] at hread
      have hx2 := bitAt_lt bs p
      obtain ⟨x, hx⟩ : ∃ x, bitAt bs p = x := ⟨_, rfl⟩
      rw [hx] at hread hy0 hx2
      obtain ⟨fn, tmps, assign, body, hy, hRo⟩ := hy0
      have HH := Lib.hid (And.intro hp (And.intro hb hlt))
      clear hbb hrd hc hn1 hx hb hp hlt
      gi_wp2_with fail
      refine ⟨trivial, rfl, callsIn_wide.2 (hread.mono ?_)⟩
      rintro e w' ⟨rfl, rfl⟩
      clear hread
      gi_wp2_with fail
      refine ⟨rfl, (hRo.mono fun _ _ h => both_of h).mono ?_⟩
      rintro e w2 ⟨bb, rfl, h2⟩
      clear hRo hy
      rcases bb with _ | _
      · have hX := Lib.hid (h2.2 rfl)
        clear h2
        gi_wp2_with fail
        refine bodyPost_ret (results_none rfl _ _ _) rfl ?_
        exact ⟨⟨_, rfl⟩, .inr ⟨k, by have := HH.out; omega, hX.out⟩⟩
      · obtain ⟨hb2, hc2⟩ := h2.1 rfl
        have hlt := HH.out.2.2
        have e0 := hb2.cell (i := 0) rfl
        have f0 := hb2.free 0
        have hnew : Blk (w2.setCell ⟨Ba, 0, none⟩ (.int .i64 ((p : Int) + 1))) Ba 3 [.int .i64 ((i0 + (k + 1) : Nat) : Int)] := by
          rw [show ((i0 + (k + 1) : Nat) : Int) = (p : Int) + 1 from by have := HH.out.1; omega]
          exact hb2.set 0 _
        have hc3 := HS.out (k + 1) (.int .i64 ((p : Int) + 1)) _ w2 hb2 hc2
        have hm : toGo (8 * bs.length) Ba (w2.setCell ⟨Ba, 0, none⟩ (.int .i64 ((p : Int) + 1))) < toGo (8 * bs.length) Ba wr := by
          rw [toGo_eq hnew, toGo_eq HH.out.2.1]
          have := HH.out
          omega
        have hw1 : IntKind.i64.wrap ((p : Int) + 1) = (p : Int) + 1 := by rw [IntKind.wrap_i64]; omega
        have HN := Lib.hid (And.intro hnew (And.intro hc3 hm))
        clear hnew hc3 hm hb2 hc2 h2
        gi_wp2_with fail
        go_roundw
        case rel => exact ⟨k + 1, .inr (by have := HH.out; omega), HN.out.1, HN.out.2.1⟩
        case measure => exact HN.out.2.2
    · have hread := Read_more wr A bs.length c hl ((p : Nat) : Int) 1 (by omega) (by omega) (by omega) (by omega) (by omega)
      rw [hp] at c0
      have HJ : Hid (C (8 * bs.length - i0) wr) := Lib.hid (by
        have hkk : 8 * bs.length - i0 = k := by omega
        rw [hkk]
        exact hc)
      clear hbb hrd hc hb
      gi_wp2_with fail
      refine ⟨trivial, rfl, callsIn_wide.2 (hread.mono ?_)⟩
      rintro e w' ⟨rfl, rfl⟩
      clear hread
      gi_wp2_with fail
      refine ⟨fun f h => (by cases h), ?_⟩
      gi_wp2_with fail
      refine bodyPost_ret (results_none rfl _ _ _) rfl ?_
      exact ⟨⟨_, rfl⟩, .inl HJ.out⟩

/-- What is no tree: nil, or one that nobody made. -/
def NoT (w : World) (p : Option Addr) : Prop := p = none ∨ ∃ b, p = some ⟨b, 0, none⟩ ∧ w.cell? ⟨b, 2, none⟩ = some (.int .i64 0)
set_option maxRecDepth 100000 in
theorem tnone_yes (w : World) (p : Option Addr) (h : NoT w p) : Calls Try.prog 68 #[.pointer p] w fun e w' => e = .returned (.bool true) ∧ w = w' := by
  rcases h with rfl | ⟨b, rfl, hb⟩
  · go_enter Try.func68, Try.ntmps68
    go_wp2
    go_ret
    exact ⟨rfl, rfl⟩
  · go_enter Try.func68, Try.ntmps68
    go_wp2
    go_ret
    exact ⟨rfl, rfl⟩
set_option maxRecDepth 100000 in
theorem TPut_none (w : World) (p : Option Addr) (h : NoT w p) (n : Int) : Calls Try.prog 52 #[.pointer p, .int .i64 n] w fun e w' => e = .returned (.tuple #[.string ⟨#[]⟩, .int .i64 1]) ∧ w = w' := by
  have hn := tnone_yes w p h
  go_enter Try.func52, Try.ntmps52
  go_wp2_with (go_at_call 68; refine hn.mono ?_; rintro e w' ⟨rfl, rfl⟩)
  go_ret2
  exact ⟨rfl, rfl⟩
/-- What Put tells. -/
def putOf (f : Int → Option ByteArray) (x : Int) : ByteArray × Int := match f x with
  | some s => (s, 0)
  | none => (⟨#[]⟩, 18)
set_option maxRecDepth 100000 in
theorem TPut_any (w : World) {base b mb n m : Nat} {v : Value} {t : List TNode} {f : Int → Option ByteArray} (h : Tr w base b v mb n t f m) (hm : 0 < m) (x : Int) (hx : -9223372036854775808 ≤ x ∧ x ≤ 9223372036854775807) :
    Calls Try.prog 52 #[.pointer (some ⟨b, 0, none⟩), .int .i64 x] w fun e w' => e = .returned (.tuple #[.string (putOf f x).1, .int .i64 (putOf f x).2]) ∧ OnlyIn [] w w' := by
  have hn := none_no w h hm
  have c1 := h.blk.cell (i := 1) rfl
  have hlk := h.map.look (t := 87) Try.underlying3 Try.underlying87 (by kernel_rfl) x hx
  clear h
  unfold putOf
  cases hf : f x with
  | none =>
    rw [hf] at hlk
    simp only [Option.getD, Option.isSome] at hlk
    go_enter Try.func52, Try.ntmps52
    go_wp2_with (go_at_call 68; refine hn.mono ?_; rintro e w' ⟨rfl, rfl⟩)
    go_ret2
    exact ⟨rfl, (OnlyIn.refl _ _).alloc _⟩
  | some s =>
    rw [hf] at hlk
    simp only [Option.getD, Option.isSome] at hlk
    go_enter Try.func52, Try.ntmps52
    go_wp2_with (go_at_call 68; refine hn.mono ?_; rintro e w' ⟨rfl, rfl⟩)
    go_ret2
    exact ⟨rfl, (OnlyIn.refl _ _).alloc _⟩
end Go.Proofs.Ytheihohojmcbiaa
