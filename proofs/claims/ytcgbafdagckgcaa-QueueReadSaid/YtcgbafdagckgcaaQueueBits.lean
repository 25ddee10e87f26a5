/-
  Package queue: bytes, Bits.
-/
import Derived.Test.YtcgbafdagckgcaaQueueFeed
import Derived.Test.YtcgbafdagckgcaaKitBytes
import Derived.Test.YtcgbafdagckgcaaTail
import Derived.Test.YtcgbafdagckgcaaOwn
import Derived.Test.YtcgbafdagckgcaaRange
namespace Go.Mine
open Go.RowKit
/-- Objects of other kinds are not the block of a slice. -/
theorem Keep.far {S : List Nat} {w0 w : World} {L : List (Nat × Obj)} (h : Keep S w0 w L) {base size n : Nat} {e : TypeId} {v : Value} {xs : List Value} (hs : Sl w base e size v n xs) (hL : ∀ x ∈ L, ∀ cur, x.2 ≠ .cells cur e (0, 0)) :
    ∀ b, b ∈ L.map (·.1) → v.ownBlock ≠ some b := by
  intro b hb hv
  obtain ⟨⟨b', o⟩, hx, rfl⟩ := List.mem_map.1 hb
  obtain ⟨n, hn⟩ := List.getElem?_of_mem hx
  obtain ⟨cur, hc⟩ := hs.type_ _ hv
  have := h.at_ n _ o hn
  rw [hc] at this
  injection this with this
  exact hL _ hx cur this.symm
end Go.Mine
namespace Go.Proofs.Ytcgbafdagckgcaa
open Go.RowKit Go.Mine Go.Shelf

attribute [local go_sem] Oper.semAt_some

set_option maxRecDepth 100000 in
theorem qbytes_any (w : World) (b : Nat) :
    Calls Try.prog 64 #[.pointer (some ⟨b, 0, none⟩)] w fun e w' => e = .returned (.func (.func 69) #[] #[.pointer (some ⟨w.heap.size, 0, none⟩)]) ∧ w.alloc (.cells #[.pointer (some ⟨b, 0, none⟩)] 55) = w' := by
  have hmf : ∀ (fn : Fn) (first cap : Array Value) (w : World), (Instr.makeFunc fn first cap).run Try.prog w = .ok (.func fn first cap) w := fun _ _ _ _ => rfl
  go_enter Try.func64, Try.ntmps64
  go_wp2
  go_ret
  exact ⟨rfl, rfl⟩

set_option maxHeartbeats 1000000 in
set_option maxRecDepth 100000 in
theorem bytes1_any (l bx : Nat) {b r N f p came gone : Nat} {xs : List UInt8} {over : Bool} (C : Nat → World → Prop)
    (hR : ∀ k W, C k W → Blk W bx 55 [.pointer (some ⟨b, 0, none⟩)] ∧ Qu W b r N f xs p came gone over)
    (hD : ∀ k m W, C k W → C k (W.drewN m))
    (hY : ∀ k W (hk : k < xs.length), C k W → YieldAt Fence.wide 0 Try.prog l #[.int .u8 ((xs[k]'hk).toNat : Int)] W fun e W' => e = .returned (.bool true) ∧ C (k + 1) W')
    (W : World) (hC : C 0 W) :
    Calls Try.prog 69 #[.func (.yield l) #[] #[], .pointer (some ⟨bx, 0, none⟩)] W fun e W' => (∃ v, e = .returned v) ∧ C xs.length W' := by
  have hmix := Try.mixed
  have HR := Lib.hid hR
  have HD := Lib.hid hD
  have HY := Lib.hid hY
  obtain ⟨hb0, hq0⟩ := hR 0 W hC
  have b0 := hb0.cell (i := 0) rfl
  have b1 := hq0.blk.cell (i := 1) rfl
  have hN1 := hq0.pos
  have hN2 := hq0.le
  have hl := hq0.len
  have hf := hq0.fst
  clear hR hD hY hb0 hq0
  refine (callsIn_wide (n := 0)).1 ?_
  refine callsIn_of_wp Try.func69 rfl trivial ?_ rfl
  simp only [Try.ntmps69, List.size_toArray, List.length_cons, List.length_nil, Nat.reduceAdd, Nat.reduceSub, Array.replicate_succ, Array.replicate_zero, List.push_toArray, List.append_toArray, List.nil_append, List.cons_append]
  gi_wp2_with fail
  gi_loopw [3, 9] (fun _ i wr => ∃ k : Nat, k ≤ xs.length ∧ i = .int .i64 (k : Int) ∧ C k wr) (fun _ i _ => xs.length - (intOf i).toNat)
  case atStart => exact ⟨0, by omega, rfl, hC⟩
  case round =>
    clear b0 b1 hC
    obtain ⟨k, hk, rfl, hc⟩ := hrel
    by_cases hlt : k < xs.length
    · obtain ⟨hbb, hq⟩ := HR.out k wr hc
      obtain ⟨rs, hrl, hrb, hrg⟩ := hq.ring
      have d0 := hbb.cell (i := 0) rfl
      have c0 := hq.blk.cell (i := 0) rfl
      have c2 := hq.blk.cell (i := 2) rfl
      have c3 := hq.blk.cell (i := 3) rfl
      obtain ⟨x, hx⟩ : ∃ x : Nat, (f + k) % N = x := ⟨_, rfl⟩
      have hm : x < N := by rw [← hx]; exact Nat.mod_lt _ hN1
      have hmi : ((f : Int) + (k : Int)) % (N : Int) = (x : Int) := by rw [← hx]; push_cast; rfl
      have hrx : rs[x]? = some (xs[k]'hlt) := by rw [← hx, hrg k hlt, List.getElem?_eq_getElem hlt]
      have hd0 : wr.cell? ⟨r, x, none⟩ = some (.int .u8 ((xs[k]'hlt).toNat : Int)) := by
        have h1 := hrb.cell (byteCells_get (by omega : x < rs.length))
        rw [List.getElem?_eq_getElem (by omega)] at hrx
        injection hrx with hrx
        rwa [hrx] at h1
      have hw1 : IntKind.i64.wrap ((f : Int) + (k : Int)) = (f : Int) + (k : Int) := by rw [IntKind.wrap_i64]; omega
      have hz1 : ¬ (N : Int) = 0 := by omega
      have hz2 : ¬ N = 0 := by omega
      have hz3 : ((N : Int) == 0) = false := by simp; omega
      have hw3 : (0 : Int) ≤ (f : Int) + (k : Int) := by omega
      have hw4 : ((f : Int) + (k : Int)).tmod (N : Int) = (x : Int) := by rw [Int.tmod_eq_emod_of_nonneg hw3]; exact hmi
      have hmeas : xs.length - (k + 1) < xs.length - k := by omega
      obtain ⟨fn, tmps, assign, body, hy, hRo⟩ := HY.out k wr.drew hlt (HD.out k 1 wr hc)
      obtain ⟨z, hz⟩ : ∃ z, (xs[k]'hlt) = z := ⟨_, rfl⟩
      rw [hz] at hd0 hy
      clear hbb hq hrb hrg hrl hrx hx hz hc
      gi_wp2_with fail
      (refine Go.Mine.wpIn_region_still_tail (by first | exact Go.Mine.Open.wide | exact Go.Mine.Open.inRound _) 19 (by assumption) (by kernel_rfl) (by kernel_rfl) ?_; simp only [List.take_succ_cons, List.take_zero, List.drop_succ_cons, List.drop_zero]; (repeat (refine Go.wpStill_step (fun K hK => ?_); go_simp; first | (refine hK _ ?_; clear hK K) | (apply Exists.intro; refine ⟨?_, hK _ ?_⟩; (fail); clear hK K))); refine Go.wpStill_nil ?_)
      gi_wp2_with fail
      refine ⟨rfl, hRo.mono ?_⟩
      rintro e w2 ⟨rfl, hc2⟩
      clear hRo hy
      gi_wp2_with fail
      go_roundw
      case rel => exact ⟨k + 1, by omega, by go_num, hc2⟩
      case measure => simp [intOf]; exact hmeas
    · obtain rfl : k = xs.length := by omega
      gi_wp2_with fail
      go_end0
      exact ⟨⟨_, rfl⟩, hc⟩
end Go.Proofs.Ytcgbafdagckgcaa
