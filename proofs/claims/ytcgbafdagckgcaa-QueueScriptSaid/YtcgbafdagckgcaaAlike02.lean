/-
  Law 02: alike.
-/
import Derived.Test.YtcgbafdagckgcaaLaw02
import Derived.Test.YtcgbafdagckgcaaInv
namespace Go.Proofs.Ytcgbafdagckgcaa
open Go.RowKit Go.Mine

/-- Both queues, and what both hold. -/
structure Both02 (w : World) (b r f bR base : Nat) (v : Value) (N : Nat) (all : List UInt8) (read : Nat) (over : Bool) : Prop where
  qu : Qu w b r N f (all.drop (read / 8)) (read % 8) all.length read over
  rq : Rq w bR base v N all read over
  ne : v.ownBlock ≠ some r
section
variable {w w' : World} {b r f bR base : Nat} {v : Value} {N : Nat} {all : List UInt8} {read : Nat} {over : Bool}
theorem Both02.only0 (h : Both02 w b r f bR base v N all read over) (ht : OnlyIn [] w w') : Both02 w' b r f bR base v N all read over :=
  ⟨h.qu.only ht (by simp) (by simp), h.rq.only ht (by simp) (by simp), h.ne⟩
end

set_option maxRecDepth 100000 in
set_option maxHeartbeats 4000000 in
theorem alike02_yes (w : World) {b r f bR base : Nat} {v : Value} {N : Nat} {all : List UInt8} {read : Nat} {over : Bool} (h : Both02 w b r f bR base v N all read over) :
    Calls Try.prog 55 #[.pointer (some ⟨b, 0, none⟩), .pointer (some ⟨bR, 0, none⟩)] w fun e w' => e = .returned (.bool true) ∧ OnlyIn [] w w' := by
  have hq := fun W (hW : OnlyIn [] w W) => h.qu.only hW (by simp) (by simp)
  have hr := fun W (hW : OnlyIn [] w W) => h.rq.only hW (by simp) (by simp)
  have hsm := h.rq.small
  have hrd := h.rq.rd
  obtain ⟨A, c, rfl, hc⟩ := h.rq.sl.val
  have b1 := h.rq.blk.cell (i := 1) rfl
  have b2 := h.rq.blk.cell (i := 2) rfl
  have b3 := h.rq.blk.cell (i := 3) rfl
  have hlX : (all.drop (read / 8)).length = all.length - read / 8 := List.length_drop
  have eL : 8 * ((all.drop (read / 8)).length : Int) - ((read % 8 : Nat) : Int) = 8 * (all.length : Int) - (read : Int) := by rw [hlX]; omega
  have eF : (N : Int) - ((all.drop (read / 8)).length : Int) = (N : Int) - ((all.length : Int) - (read : Int) / 8) := by rw [hlX]; omega
  have cL := fun W hW => qLeft_any W (hq W hW)
  have cF := fun W hW => qFree_any W (hq W hW)
  rw [eL] at cL
  rw [eF] at cF
  have cB := qBits_any w (hq w (OnlyIn.refl _ _))
  have dB := fun W hW => rBits_any W (hr W hW)
  obtain ⟨X, hX⟩ : ∃ X, all.drop (read / 8) = X := ⟨_, rfl⟩
  obtain ⟨m, hm⟩ : ∃ m, read % 8 = m := ⟨_, rfl⟩
  have hXl : X.length ≤ 1000000 := by rw [← hX, hlX]; omega
  rw [hX, hm] at cB dB
  have dL := fun W hW => rLeft_any W (hr W hW)
  have dF := fun W hW => rFree_any W (hr W hW)
  have cE := fun W hW => qEnded_any W (hq W hW)
  have cC := fun W hW => qCame_any W (hq W hW)
  have cG := fun W hW => qGone_any W (hq W hW)
  obtain ⟨zL, hzL⟩ : ∃ z, 8 * (all.length : Int) - (read : Int) = z := ⟨_, rfl⟩
  obtain ⟨zF, hzF⟩ : ∃ z, (N : Int) - ((all.length : Int) - (read : Int) / 8) = z := ⟨_, rfl⟩
  rw [hzL] at cL dL
  rw [hzF] at cF dF
  clear hzL hzF eL eF hq hr h hlX hX hm
  go_enter Try.func55, Try.ntmps55
  go_wp2_with fail
  refine cB.mono ?_
  rintro e w1 ⟨u1, rfl, hs1, t1⟩
  clear cB
  obtain ⟨A1, c1, rfl, hc1⟩ := hs1.val
  go_wp2_with fail
  refine (dB w1 t1).mono ?_
  rintro e w2 ⟨u2, rfl, hs2, t2⟩
  clear dB
  obtain ⟨A2, c2, rfl, hc2⟩ := hs2.val
  have o2 := t1.trans t2
  have hs12 := hs1.only t2 (by simp)
  have hw1 : w.heap.size ≤ w1.heap.size := t1.size
  have p1 := o2.cell b1 (by simp)
  have p2 := o2.cell b2 (by simp)
  have p3 := o2.cell b3 (by simp)
  have hsame := fun W (hW : OnlyIn [] w2 W) => SameBytes_any W (.slice A1 X.length c1) (.slice A2 X.length c2) X X ((Rd.of_sl hs12).cells fun p u hp => hW.cell hp (by simp)) ((Rd.of_sl hs2).cells fun p u hp => hW.cell hp (by simp))
  rw [decide_eq_true rfl] at hsame
  clear t1 t2 hs1 b1 b2 b3
  go_wp2_with fail
  (refine Go.Mine.wp_region_inv (Go.Mine.OnlyIn [] _) (by kernel_rfl) (by kernel_rfl) ((Go.Mine.OnlyIn.refl _ _).drew) ?_; (repeat (first | (refine Go.Mine.wpInv_run _ (by first | rfl | go_simp) (fun W hW => by (have q1 := hW.cell p1 (by simp); have q2 := hW.cell p2 (by simp); have q3 := hW.cell p3 (by simp); go_simp; first | exact ⟨rfl, hW⟩ | exact rfl | (simp only [Go.Mine.Oper.invUpon]; first | (go_at_call 63; exact (hsame W hW).mono (fun e w'' h => ⟨h.1, by rw [← h.2]; exact hW⟩)) | (go_at_call 36; exact (cL W (o2.trans hW)).mono (fun e w'' h => ⟨h.1, by obtain ⟨k, hk⟩ := h.2; rw [hk]; exact hW.drewN k⟩)) | (go_at_call 66; exact (dL W (o2.trans hW)).mono (fun e w'' h => ⟨h.1, by obtain ⟨k, hk⟩ := h.2; rw [hk]; exact hW.drewN k⟩)) | (go_at_call 38; exact (cF W (o2.trans hW)).mono (fun e w'' h => ⟨h.1, hW.trans h.2⟩)) | (go_at_call 65; exact (dF W (o2.trans hW)).mono (fun e w'' h => ⟨h.1, by obtain ⟨k, hk⟩ := h.2; rw [hk]; exact hW.drewN k⟩)) | (go_at_call 56; exact (cE W (o2.trans hW)).mono (fun e w'' h => ⟨h.1, by rw [← h.2]; exact hW⟩)) | (go_at_call 43; exact (cC W (o2.trans hW)).mono (fun e w'' h => ⟨h.1, by rw [← h.2]; exact hW⟩)) | (go_at_call 42; exact (cG W (o2.trans hW)).mono (fun e w'' h => ⟨h.1, by rw [← h.2]; exact hW⟩))))) ?_; go_simp) | (refine Go.Mine.wpInv_skip (by first | rfl | go_simp) ?_; go_simp))); refine Go.Mine.wpInv_nil ?_; intro W hW; have q1 := hW.cell p1 (by simp); have q2 := hW.cell p2 (by simp); have q3 := hW.cell p3 (by simp))
  have hs3 := hs12.only hW (by simp)
  have o3 := o2.trans hW
  clear cL cF cE cC cG dL dF hsame q1 q2 q3 p1 p2 p3 hs12 hs2 hW
  go_wp2_with fail
  refine (OverBytes_any _ _ X.length X _ hs3 (by omega)).mono ?_
  rintro e w4 ⟨rfl, t4⟩
  have o4 : OnlyIn [] w w4 := o3.then t4 (fun j hj => .inr (hs3.own_lt j (by simpa using hj)).1)
  clear hs3 t4 o3
  go_wp2_with fail
  go_ret
  exact ⟨rfl, o4⟩
end Go.Proofs.Ytcgbafdagckgcaa
