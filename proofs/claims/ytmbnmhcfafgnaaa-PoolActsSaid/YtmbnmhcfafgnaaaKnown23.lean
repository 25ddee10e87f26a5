/-
  Law 23: awake, PoolKnown: the walks.
-/
import Derived.Test.YtmbnmhcfafgnaaaLaw23
namespace Go.Proofs.Ytmbnmhcfafgnaaa
open Go.RowKit Go.Mine

section
variable {w0 w w1 w' : World} {base b N T : Nat} {q : Int} {fs fs' : List Fr} {L L' : List Nat} {H : Int}
theorem okFT (D : List UInt8) (x y : Int) (hx : x = 1 ∨ x = 2) : OkF [⟨5, x, D⟩, ⟨5, 1, D⟩, ⟨6, 1, D⟩] 1000 := by
  rcases hx with rfl | rfl <;> exact okF_of (by kernel_rfl)
set_option maxRecDepth 100000 in
set_option maxHeartbeats 2000000 in
theorem awake23 (w0 w : World) (ho : OnlyIn [] w0 w) : Calls Try.prog 41 #[] w fun e w' => e = .returned (.bool true) ∧ OnlyIn [] w0 w' := by
  go_enter Try.func41, Try.ntmps41
  go_wp2_with fail
  refine (three_yes w0 w ho).mono ?_
  rintro e w1 ⟨b, base, T, D, rfl, hD, hT, k1⟩
  replace k1 := Lib.hid k1
  clear hD
  go_wp2_with fail
  refine (retain_yes (fs' := [⟨5, 2, D⟩, ⟨5, 1, D⟩, ⟨6, 1, D⟩]) k1.out (okF_of (by kernel_rfl)) 0 5 0 (by kernel_rfl) (by kernel_rfl)).mono ?_
  rintro e w2 ⟨rfl, k2⟩
  replace k2 := Lib.hid k2
  clear k1
  go_wp2_with fail
  refine (release_yes (fs' := [⟨5, 1, D⟩, ⟨5, 1, D⟩, ⟨6, 1, D⟩]) k2.out (by omega) (okF_of (by kernel_rfl)) 0 5 0 (by kernel_rfl) (by kernel_rfl)).mono ?_
  rintro e w3 ⟨rfl, k3⟩
  replace k3 := Lib.hid k3
  clear k2
  go_wp2_with fail
  refine (handles_yes k3.out 0 1 (by kernel_rfl)).mono ?_
  rintro e w4 ⟨rfl, rfl⟩
  go_wp2_with fail
  refine (release_yes (fs' := [⟨5, 1, D⟩, ⟨5, 1, D⟩, ⟨6, 1, D⟩]) k3.out (by omega) (okF_of (by kernel_rfl)) 0 6 19 (by kernel_rfl) (by kernel_rfl)).mono ?_
  rintro e w5 ⟨rfl, k5⟩
  replace k5 := Lib.hid k5
  clear k3
  go_wp2_with fail
  go_ret
  exact ⟨rfl, k5.out.2.1⟩

set_option maxRecDepth 100000 in
set_option maxHeartbeats 4000000 in
theorem known23 (w : World) : Calls Try.prog 8 #[] w fun e w' => e = .returned (.bool true) ∧ OnlyIn [] w w' := by
  go_enter Try.func8, Try.ntmps8
  go_wp2_with fail
  refine (three_yes w w (OnlyIn.refl _ _)).mono ?_
  rintro e w1 ⟨b, base, T, D, rfl, hD, hT, k1⟩
  replace k1 := Lib.hid k1
  replace hD := Lib.hid hD
  go_wp2_with fail
  refine (release_yes (fs' := [⟨0, 0, D⟩, ⟨5, 1, D⟩, ⟨6, 1, D⟩]) k1.out (by omega) (okF_of (by kernel_rfl)) 0 5 0 (by kernel_rfl) (by kernel_rfl)).mono ?_
  rintro e w2 ⟨rfl, k2⟩
  replace k2 := Lib.hid k2
  clear k1
  go_wp2_with fail
  refine (handles_yes k2.out 0 0 (by kernel_rfl)).mono ?_
  rintro e w3 ⟨rfl, rfl⟩
  go_wp2_with fail
  refine (owner_yes k2.out 0 0 (by kernel_rfl)).mono ?_
  rintro e w4 ⟨rfl, rfl⟩
  go_wp2_with fail
  refine (release_yes (fs' := [⟨0, 0, D⟩, ⟨5, 1, D⟩, ⟨6, 1, D⟩]) k2.out (by omega) (okF_of (by kernel_rfl)) 0 5 18 (by kernel_rfl) (by kernel_rfl)).mono ?_
  rintro e w5 ⟨rfl, k5⟩
  replace k5 := Lib.hid k5
  clear k2
  go_wp2_with fail
  refine (acquires_yes (fs' := [⟨6, 1, D⟩, ⟨5, 1, D⟩, ⟨6, 1, D⟩]) k5.out (by omega) 6 0 0 (by decide) (by kernel_rfl) (by kernel_rfl) (by kernel_rfl)).mono ?_
  rintro e w6 ⟨rfl, k6⟩
  replace k6 := Lib.hid k6
  clear k5
  go_wp2_with fail
  refine (held_yes k6.out 6 2 (by decide) (by kernel_rfl)).mono ?_
  rintro e w7 ⟨rfl, rfl⟩
  go_wp2_with fail
  refine (reclaims_yes (fs' := [⟨0, 0, D⟩, ⟨5, 1, D⟩, ⟨0, 0, D⟩]) k6.out (by omega) (okF_of (by kernel_rfl)) 6 2 (by kernel_rfl) (by kernel_rfl)).mono ?_
  rintro e w8 ⟨rfl, k8⟩
  replace k8 := Lib.hid k8
  clear k6
  go_wp2_with fail
  refine (held_yes k8.out 6 0 (by decide) (by kernel_rfl)).mono ?_
  rintro e w9 ⟨rfl, rfl⟩
  go_wp2_with fail
  refine (reclaims_yes (fs' := [⟨0, 0, D⟩, ⟨5, 1, D⟩, ⟨0, 0, D⟩]) k8.out (by omega) (okF_of (by kernel_rfl)) 6 0 (by kernel_rfl) (by kernel_rfl)).mono ?_
  rintro e w10 ⟨rfl, k10⟩
  replace k10 := Lib.hid k10
  clear k8
  go_wp2_with fail
  refine (free_yes k10.out 2 (by kernel_rfl)).mono ?_
  rintro e w11 ⟨rfl, rfl⟩
  go_wp2_with fail
  refine (pNew_bad _ 0 1 (by decide)).mono ?_
  rintro e w12 ⟨rfl, rfl⟩
  go_wp2_with fail
  refine (pNew_bad _ 2 3 (by decide)).mono ?_
  rintro e w13 ⟨rfl, rfl⟩
  obtain ⟨hb, ho, L, hP⟩ := k10.out
  have hlo := hP.lo
  have hl1 := go_look hP 3 1
  rw [show lookE [⟨0, 0, D⟩, ⟨5, 1, D⟩, ⟨0, 0, D⟩] 3 1 = 3 by kernel_rfl] at hl1
  clear hP k10
  replace ho := Lib.hid ho
  go_wp2_with fail
  refine hl1.mono ?_
  clear hl1
  rintro e w14 ⟨v, rfl, hs, L2, hP2, ht2, hl2, -⟩
  have o2 := ho.out.then ht2 (fun k hk => .inr (Nat.le_trans hb (hlo k hk)))
  have hl1 := go_look hP2 0 2
  rw [show lookE [⟨0, 0, D⟩, ⟨5, 1, D⟩, ⟨0, 0, D⟩] 0 2 = 0 by kernel_rfl, show lookD [⟨0, 0, D⟩, ⟨5, 1, D⟩, ⟨0, 0, D⟩] 0 2 = [0, 0] from (show _ = D.take 2 by kernel_rfl).trans hD.out] at hl1
  have hlo2 := hP2.lo
  clear hP2 ht2 hl2 hs ho
  replace o2 := Lib.hid o2
  go_wp2_with fail
  refine hl1.mono ?_
  clear hl1
  rintro e w15 ⟨v2, rfl, hs, L3, hP3, ht3, hl3, hn3⟩
  have o3 := o2.out.then ht3 (fun k hk => .inr (Nat.le_trans hb (hlo2 k hk)))
  have HX := Lib.hid (And.intro hs (And.intro hP3 (And.intro hn3 o3)))
  clear hs hP3 ht3 hl3 hn3 o3 o2
  go_wp2_with fail
  refine (awake23 _ _ (OnlyIn.refl _ _)).mono ?_
  rintro e w16 ⟨rfl, o4⟩
  have o4 := Lib.hid o4
  go_wp2_with fail
  refine (acquires_go (fs' := [⟨0, 0, D⟩, ⟨5, 1, D⟩, ⟨0, 0, D⟩]) (HX.out.2.1.only o4.out (by simp)) (by omega) 0 0 3 (by decide) (by kernel_rfl) (by kernel_rfl) (by kernel_rfl)).mono ?_
  rintro e w17 ⟨rfl, L5, hP5, ht5, hl5⟩
  obtain ⟨hs, hP3, hn3, o3⟩ := HX.out
  have hs2 := (hs.only o4.out (by simp)).only ht5 hn3
  have o5 := (o3.trans o4.out).then ht5 (fun k hk => .inr (Nat.le_trans hb (hP3.lo k hk)))
  have hsb := SameBytes_any (w17.alloc (.cells (byteCells [0, 0]).toArray 5)) v2 (.slice (some ⟨w17.heap.size, 0, none⟩) 2 2) [0, 0] [0, 0] ((Rd.of_sl hs2).cells fun p u hp => ((OnlyIn.refl [] _).alloc _).cell hp (by simp)) (Rd.lit w17 (byteCells [0, 0]) 5 2 rfl)
  rw [decide_eq_true rfl] at hsb
  replace o5 := Lib.hid o5
  clear hs hP3 hn3 o3 hs2 hP5 ht5 hl5 HX o4
  go_wp2_with fail
  refine hsb.mono ?_
  rintro e w18 ⟨rfl, rfl⟩
  clear hsb
  go_wp2_with fail
  go_ret
  exact ⟨rfl, o5.out.alloc _⟩
set_option maxRecDepth 100000 in
theorem PoolKnown_walk {w : World} : Calls Try.prog 8 #[] w fun e w' => e = .returned (.bool true) ∧ OnlyIn [] w w' := known23 w
end
end Go.Proofs.Ytmbnmhcfafgnaaa
