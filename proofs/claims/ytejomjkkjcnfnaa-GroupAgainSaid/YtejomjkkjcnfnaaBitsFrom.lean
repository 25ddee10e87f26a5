/-
  Package bits: from, its iterator.
-/
import Derived.Test.YtejomjkkjcnfnaaBits
import Derived.Test.YtejomjkkjcnfnaaTail
namespace Go.Proofs.Ytejomjkkjcnfnaa
open Go.RowKit Go.Mine Go.Shelf

attribute [local go_sem] Oper.semAt_some

set_option maxRecDepth 100000 in
theorem Try.mixed : Try.prog.follows .mixedOrders = true := by kernel_rfl

set_option maxRecDepth 100000 in
theorem from_any (w : World) (v : Value) (A : Option Addr) (n c : Nat) (hv : v = .slice A n c) (at_ : Int) :
    Calls Try.prog 59 #[v, .int .i64 at_] w fun e w' => e = .returned (.func (.func 69) #[] #[.pointer (some ⟨w.heap.size + 1, 0, none⟩), .pointer (some ⟨w.heap.size, 0, none⟩)]) ∧ (w.alloc (.cells #[v] 28)).alloc (.cells #[.int .i64 at_] 3) = w' := by
  subst hv
  have hmf : ∀ (fn : Fn) (first cap : Array Value) (w : World), (Instr.makeFunc fn first cap).run Try.prog w = .ok (.func fn first cap) w := fun _ _ _ _ => rfl
  go_enter Try.func59, Try.ntmps59
  go_wp2
  go_ret
  exact ⟨rfl, rfl⟩

/-- What a round comes to, by what it hands back. -/
def Two (b : Bool) (p q : Prop) : Prop := (b = true → p) ∧ (b = false → q)
theorem two_of {e : Ending} {p q : Prop} (h : (e = .returned (.bool true) ∧ p) ∨ (e = .returned (.bool false) ∧ q)) : ∃ b : Bool, e = .returned (.bool b) ∧ Two b p q := by
  rcases h with ⟨rfl, hp⟩ | ⟨rfl, hq⟩
  · exact ⟨true, rfl, fun _ => hp, fun h => by cases h⟩
  · exact ⟨false, rfl, fun h => (by cases h), fun _ => hq⟩

/-- How many places are still to come, read off the cell. -/
def toCome (n Ba : Nat) (w : World) : Nat := match w.cell? ⟨Ba, 0, none⟩ with
  | some (.int _ q) => n - q.toNat
  | _ => 0
theorem toCome_eq {n Ba i k : Nat} {w : World} {t : TypeId} (h : Blk w Ba t [.int .i64 ((i : Int) + (k : Int))]) : toCome n Ba w = n - (i + k) := by
  unfold toCome
  rw [h.cell (i := 0) rfl]
  simp; omega

set_option maxRecDepth 100000 in
/-- The iterator, from a place that may be: for every body that keeps the bytes and the place. C: what the caller keeps. -/
theorem from1_any (l Ba Bb i0 : Nat) (v : Value) (bs : List UInt8) (hl : bs.length ≤ 1000000000) (C Jx : Nat → World → Prop)
    (hR : ∀ k W, C k W → Blk W Bb 28 [v] ∧ Rd W 1 v bs.length (byteCells bs))
    (hD : ∀ k m W, C k W → C k (W.drewN m))
    (hS : ∀ k u x W, Blk W Ba 3 [x] → C k W → C k (W.setCell ⟨Ba, 0, none⟩ u))
    (hY : ∀ k W, i0 + k < 8 * bs.length → Blk W Ba 3 [.int .i64 ((i0 : Int) + (k : Int))] → C k W → YieldAt Fence.wide 0 Try.prog l #[.int .i64 ((i0 : Int) + (k : Int)), .int .i64 (bitAt bs (i0 + k) : Int)] W fun e W' =>
      (e = .returned (.bool true) ∧ Blk W' Ba 3 [.int .i64 ((i0 : Int) + (k : Int))] ∧ C (k + 1) W') ∨ (e = .returned (.bool false) ∧ Jx k W'))
    (W : World) (h0 : Blk W Ba 3 [.int .i64 (i0 : Int)]) (hC : C 0 W) :
    Calls Try.prog 69 #[.func (.yield l) #[] #[], .pointer (some ⟨Ba, 0, none⟩), .pointer (some ⟨Bb, 0, none⟩)] W fun e W' => (∃ v, e = .returned v) ∧ (C (8 * bs.length - i0) W' ∨ ∃ k, i0 + k < 8 * bs.length ∧ Jx k W') := by
  obtain ⟨A, c, rfl⟩ : ∃ A c, v = .slice A bs.length c := by
    obtain ⟨-, A, c, rfl, -⟩ := (hR 0 W hC).2
    exact ⟨A, c, rfl⟩
  have hmix := Try.mixed
  have HR := Lib.hid hR
  have HD := Lib.hid hD
  have HS := Lib.hid hS
  have HY := Lib.hid hY
  clear hR hD hS hY
  refine (callsIn_wide (n := 0)).1 ?_
  refine callsIn_of_wp Try.func69 rfl trivial ?_ rfl
  simp only [Try.ntmps69, List.size_toArray, List.length_cons, List.length_nil, Nat.reduceAdd, Nat.reduceSub, Array.replicate_succ, Array.replicate_zero, List.push_toArray, List.append_toArray, List.nil_append, List.cons_append]
  gi_wp2_with fail
  gi_loopw [15] (fun _ wr => ∃ k : Nat, k ≤ 8 * bs.length - i0 ∧ Blk wr Ba 3 [.int .i64 ((i0 : Int) + (k : Int))] ∧ C k wr) (fun _ wr => toCome (8 * bs.length) Ba wr)
  case atStart => exact ⟨0, by omega, by simpa using h0, hC⟩
  case round =>
    obtain ⟨k, hk, hb, hc⟩ := hrel
    have c0 := hb.cell (i := 0) rfl
    have d0 := (HR.out k wr hc).1.cell (i := 0) rfl
    by_cases hlt : i0 + k < 8 * bs.length
    · have hrd := (HR.out k wr hc).2
      have hdec : decide ((i0 : Int) + (k : Int) < 8 * (bs.length : Int)) = true := by simp; omega
      gi_wp2_with fail
      obtain ⟨fn, tmps, assign, body, hy, hRo⟩ := HY.out k wr.drew hlt hb.drew (HD.out k 1 wr hc)
      (refine Go.Mine.wpIn_region_still_tail (by first | exact Go.Mine.Open.wide | exact Go.Mine.Open.inRound _) 10 (by assumption) (by kernel_rfl) (by kernel_rfl) ?_; simp only [List.take_succ_cons, List.take_zero, List.drop_succ_cons, List.drop_zero]; (repeat (refine Go.wpStill_step (fun K hK => ?_); go_simp; first | (refine hK _ ?_; clear hK K) | (apply Exists.intro; refine ⟨?_, hK _ ?_⟩; (first | (go_at_call 27; refine (Count_any _ A bs.length c hl).mono ?_; rintro e w' ⟨rfl, rfl⟩; exact ⟨rfl, rfl⟩) | (rw [show ((i0 : Int) + (k : Int)) = ((i0 + k : Nat) : Int) from by omega]; refine (bit_any _ _ bs hrd.drew (i0 + k) hlt hl).mono ?_; rintro e w' ⟨rfl, rfl⟩; exact ⟨rfl, rfl⟩)); clear hK K))); refine Go.wpStill_nil ?_)
      gi_wp2_with fail
      refine ⟨rfl, (hRo.mono fun _ _ h => two_of h).mono ?_⟩
      rintro e w2 ⟨bb, rfl, h2⟩
      · rcases bb with _ | _
        · have hX := h2.2 rfl
          gi_wp2_with fail
          go_end0
          exact ⟨⟨_, rfl⟩, .inr ⟨k, hlt, hX⟩⟩
        · obtain ⟨hb2, hc2⟩ := h2.1 rfl
          have e0 := hb2.cell (i := 0) rfl
          have f0 := hb2.free 0
          have hnew : Blk (w2.setCell ⟨Ba, 0, none⟩ (.int .i64 ((i0 : Int) + (k : Int) + 1))) Ba 3 [.int .i64 ((i0 : Int) + ((k + 1 : Nat) : Int))] := by
            rw [show (i0 : Int) + ((k + 1 : Nat) : Int) = (i0 : Int) + (k : Int) + 1 from by omega]
            exact hb2.set 0 _
          have hc3 := HS.out (k + 1) (.int .i64 ((i0 : Int) + (k : Int) + 1)) _ w2 hb2 hc2
          have hm : toCome (8 * bs.length) Ba (w2.setCell ⟨Ba, 0, none⟩ (.int .i64 ((i0 : Int) + (k : Int) + 1))) < toCome (8 * bs.length) Ba wr := by
            rw [toCome_eq hnew, toCome_eq hb]
            omega
          gi_wp2_with fail
          go_roundw
          case rel => exact ⟨k + 1, by omega, hnew, hc3⟩
          case measure => exact hm
    · have hdec : ((i0 : Int) + (k : Int) < 8 * (bs.length : Int)) = False := by simp; omega
      have HJ : C (8 * bs.length - i0) wr.drew := by
        have hkk : 8 * bs.length - i0 = k := by omega
        rw [hkk]
        exact HD.out k 1 wr hc
      gi_wp2_with fail
      (refine Go.Mine.wpIn_region_still_tail (by first | exact Go.Mine.Open.wide | exact Go.Mine.Open.inRound _) 11 (by assumption) (by kernel_rfl) (by kernel_rfl) ?_; simp only [List.take_succ_cons, List.take_zero, List.drop_succ_cons, List.drop_zero]; (repeat (refine Go.wpStill_step (fun K hK => ?_); go_simp; first | (refine hK _ ?_; clear hK K) | (apply Exists.intro; refine ⟨?_, hK _ ?_⟩; ((refine (Count_any _ A bs.length c hl).mono ?_; rintro e w' ⟨rfl, rfl⟩; exact ⟨rfl, rfl⟩)); clear hK K))); refine Go.wpStill_nil ?_)
      gi_wp2_with fail
      go_end0
      exact ⟨⟨_, rfl⟩, .inl HJ⟩
