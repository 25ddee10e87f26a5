/-
  Law 23: acquires, reclaims, three, awake, PoolKnown.
-/
import Derived.Test.YtmbnmhcfafgnaaaPoolGo
namespace Go.Proofs.Ytmbnmhcfafgnaaa
open Go.RowKit Go.Mine

section
variable {w0 w w1 w' : World} {base b N T : Nat} {q : Int} {fs fs' : List Fr} {L L' : List Nat} {H : Int}
/-- A pool that is all that was laid since world w0. -/
def KS (w0 w : World) (base b N T : Nat) (q : Int) (fs : List Fr) : Prop := w0.heap.size ≤ base ∧ OnlyIn [] w0 w ∧ ∃ L, PlS w base b N T q fs L
theorem KS.go (h : w0.heap.size ≤ base) (ho : OnlyIn [] w0 w) (hP : PlS w base b N T q fs L) {T' : Nat} (hg : PlGo w w' base b N T' q fs' L) : KS w0 w' base b N T' q fs' := by
  obtain ⟨L', h1, ht, hl⟩ := hg
  exact ⟨h, ho.then ht (fun k hk => .inr (Nat.le_trans h (hP.lo k hk))), L', h1⟩
theorem okF_of (h : (fs.all fun f => decide (0 ≤ f.handles) && decide (f.handles ≤ 1000) && decide (0 ≤ f.owner) && decide (f.owner ≤ 2147483647) && (decide (f.owner = 0) == decide (f.handles = 0))) = true) : OkF fs 1000 := by
  intro i hi
  rw [List.all_eq_true] at h
  have := h _ (List.getElem_mem hi)
  rw [← frAt_eq hi] at this
  simp only [Bool.and_eq_true, decide_eq_true_eq, beq_iff_eq, decide_eq_decide] at this
  exact ⟨this.1.1.1.1, this.1.1.1.2, this.1.1.2, this.1.2, this.2⟩

set_option maxRecDepth 100000 in
theorem acquires_any (hP : PlS w base b N T q fs L) (hT : T < 90000) (o want err : Int) (ho : -9223372036854775808 ≤ o ∧ o ≤ 9223372036854775807) :
    Calls Try.prog 35 #[.pointer (some ⟨b, 0, none⟩), .int .i64 o, .int .i64 want, .int .i64 err] w fun e w' => e = .returned (.bool (decide ((acqN fs q o : Int) = want) && decide (acqE fs q o = err))) ∧ PlGo w w' base b N (T + 64) q (acqS fs q o) L := by
  have hac := go_acquire hP hT o ho
  clear hP
  generalize acqS fs q o = fs' at hac
  obtain ⟨n, hn⟩ : ∃ n : Int, (acqN fs q o : Int) = n := ⟨_, rfl⟩
  rw [hn] at hac ⊢
  generalize acqE fs q o = e at hac ⊢
  clear hn
  by_cases h1 : n = want
  · subst h1
    by_cases h2 : e = err
    · subst h2
      go_enter Try.func35, Try.ntmps35
      go_wp2_with (go_at_call 43; refine hac.mono ?_; rintro e w' ⟨rfl, hg⟩; replace hg := Lib.hid hg; clear hac)
      go_ret
      exact ⟨by simp, hg.out⟩
    · have d2 : (e == err) = false := by simpa using h2
      rw [decide_eq_false h2]
      go_enter Try.func35, Try.ntmps35
      go_wp2_with (go_at_call 43; refine hac.mono ?_; rintro e w' ⟨rfl, hg⟩; replace hg := Lib.hid hg; clear hac)
      go_ret
      exact ⟨by simp, hg.out⟩
  · have d1 : (n == want) = false := by simpa using h1
    rw [decide_eq_false h1]
    go_enter Try.func35, Try.ntmps35
    go_wp2_with (go_at_call 43; refine hac.mono ?_; rintro e w' ⟨rfl, hg⟩; replace hg := Lib.hid hg; clear hac)
    go_ret
    exact ⟨by simp, hg.out⟩
set_option maxRecDepth 100000 in
theorem acquires_go (hP : PlS w base b N T q fs L) (hT : T < 90000) (o want err : Int) (ho : -9223372036854775808 ≤ o ∧ o ≤ 9223372036854775807) (h1 : (acqN fs q o : Int) = want) (h2 : acqE fs q o = err) (h3 : acqS fs q o = fs') :
    Calls Try.prog 35 #[.pointer (some ⟨b, 0, none⟩), .int .i64 o, .int .i64 want, .int .i64 err] w fun e w' => e = .returned (.bool true) ∧ PlGo w w' base b N (T + 64) q fs' L := by
  have := acquires_any hP hT o want err ho
  rw [decide_eq_true h1, decide_eq_true h2, h3] at this
  exact this
set_option maxRecDepth 100000 in
theorem acquires_yes (hK : KS w0 w base b N T q fs) (hT : T < 90000) (o want err : Int) (ho : -9223372036854775808 ≤ o ∧ o ≤ 9223372036854775807) (h1 : (acqN fs q o : Int) = want) (h2 : acqE fs q o = err) (h3 : acqS fs q o = fs') :
    Calls Try.prog 35 #[.pointer (some ⟨b, 0, none⟩), .int .i64 o, .int .i64 want, .int .i64 err] w fun e w' => e = .returned (.bool true) ∧ KS w0 w' base b N (T + 64) q fs' := by
  obtain ⟨hb, ht, L, hP⟩ := hK
  exact (acquires_go hP hT o want err ho h1 h2 h3).mono fun e w' ⟨he, hg⟩ => ⟨he, KS.go hb ht hP hg⟩
set_option maxRecDepth 100000 in
theorem reclaims_any (hP : PlS w base b N T q fs L) (hT : T < 90000) (hk : OkF fs H) (hH : H ≤ 1000000) (o want : Int) (h1 : heldN fs o = want) :
    Calls Try.prog 37 #[.pointer (some ⟨b, 0, none⟩), .int .i64 o, .int .i64 want] w fun e w' => e = .returned (.bool true) ∧ PlGo w w' base b N (T + 64) q (recS fs o) L := by
  have hac := go_reclaim hP hT hk hH o
  clear hP
  rw [h1] at hac
  clear h1
  go_enter Try.func37, Try.ntmps37
  go_wp2_with (go_at_call 45; refine hac.mono ?_; rintro e w' ⟨rfl, hg⟩; replace hg := Lib.hid hg; clear hac)
  go_ret
  exact ⟨by simp, hg.out⟩
set_option maxRecDepth 100000 in
theorem reclaims_yes (hK : KS w0 w base b N T q fs) (hT : T < 90000) (hk : OkF fs 1000) (o want : Int) (h1 : heldN fs o = want) (h2 : recS fs o = fs') :
    Calls Try.prog 37 #[.pointer (some ⟨b, 0, none⟩), .int .i64 o, .int .i64 want] w fun e w' => e = .returned (.bool true) ∧ KS w0 w' base b N (T + 64) q fs' := by
  obtain ⟨hb, ht, L, hP⟩ := hK
  exact (reclaims_any hP hT hk (by omega) o want h1).mono fun e w' ⟨he, hg⟩ => ⟨he, KS.go hb ht hP (by rw [h2] at hg; exact hg)⟩
set_option maxRecDepth 100000 in
theorem free_yes (hK : KS w0 w base b N T q fs) (z : Int) (h1 : ((freeI fs).length : Int) = z) : Calls Try.prog 38 #[.pointer (some ⟨b, 0, none⟩)] w fun e w' => e = .returned (.int .i64 z) ∧ w = w' := by
  obtain ⟨hb, ht, L, hP⟩ := hK
  have := go_free hP
  rw [h1] at this
  exact this
set_option maxRecDepth 100000 in
theorem held_yes (hK : KS w0 w base b N T q fs) (o z : Int) (ho : -9223372036854775808 ≤ o ∧ o ≤ 9223372036854775807) (h1 : heldN fs o = z) : Calls Try.prog 36 #[.pointer (some ⟨b, 0, none⟩), .int .i64 o] w fun e w' => e = .returned (.int .i64 z) ∧ w = w' := by
  obtain ⟨hb, ht, L, hP⟩ := hK
  have := go_held hP o ho
  rw [h1] at this
  exact this
set_option maxRecDepth 100000 in
theorem handles_yes (hK : KS w0 w base b N T q fs) (n z : Int) (h1 : hanF fs n = z) : Calls Try.prog 33 #[.pointer (some ⟨b, 0, none⟩), .int .i64 n] w fun e w' => e = .returned (.int .i64 z) ∧ w = w' := by
  obtain ⟨hb, ht, L, hP⟩ := hK
  have := go_handles hP n
  rw [h1] at this
  exact this
set_option maxRecDepth 100000 in
theorem owner_yes (hK : KS w0 w base b N T q fs) (n z : Int) (h1 : ownF fs n = z) : Calls Try.prog 34 #[.pointer (some ⟨b, 0, none⟩), .int .i64 n] w fun e w' => e = .returned (.int .i64 z) ∧ w = w' := by
  obtain ⟨hb, ht, L, hP⟩ := hK
  have := go_owner hP n
  rw [h1] at this
  exact this
set_option maxRecDepth 100000 in
theorem retain_yes (hK : KS w0 w base b N T q fs) (hk : OkF fs 1000) (n o z : Int) (h1 : whyF fs n o = z) (h2 : retF fs n o = fs') :
    Calls Try.prog 44 #[.pointer (some ⟨b, 0, none⟩), .int .i64 n, .int .i64 o] w fun e w' => e = .returned (.int .i64 z) ∧ KS w0 w' base b N (T + 64) q fs' := by
  obtain ⟨hb, ht, L, hP⟩ := hK
  exact (go_retain hP hk (by omega) n o).mono fun e w' ⟨he, hg⟩ => ⟨by rw [he, h1], KS.go hb ht hP (by rw [h2] at hg; exact hg)⟩
set_option maxRecDepth 100000 in
theorem release_yes (hK : KS w0 w base b N T q fs) (hT : T < 90000) (hk : OkF fs 1000) (n o z : Int) (h1 : whyF fs n o = z) (h2 : relF fs n o = fs') :
    Calls Try.prog 32 #[.pointer (some ⟨b, 0, none⟩), .int .i64 n, .int .i64 o] w fun e w' => e = .returned (.int .i64 z) ∧ KS w0 w' base b N (T + 64) q fs' := by
  obtain ⟨hb, ht, L, hP⟩ := hK
  exact (go_release hP hT hk (by omega) n o).mono fun e w' ⟨he, hg⟩ => ⟨by rw [he, h1], KS.go hb ht hP (by rw [h2] at hg; exact hg)⟩
set_option maxRecDepth 100000 in
theorem new_yes (w0 w : World) (ho : OnlyIn [] w0 w) (N : Nat) (q : Int) (h : 1 ≤ N ∧ N ≤ 64 ∧ 1 ≤ q ∧ q ≤ N) : Calls Try.prog 39 #[.int .i64 (N : Int), .int .i64 q] w fun e w' => ∃ b, e = .returned (.tuple #[.pointer (some ⟨b, 0, none⟩), .int .i64 0]) ∧ KS w0 w' w.heap.size b N 0 q (emptyFs N) :=
  (pNew_ok w N q h).mono fun e w' ⟨b, B, iv, he, hP, ht⟩ => ⟨b, he, ho.size, ho.trans ht, _, hP.pls⟩

set_option maxRecDepth 100000 in
set_option maxHeartbeats 4000000 in
theorem three_yes (w0 w : World) (ho : OnlyIn [] w0 w) : Calls Try.prog 31 #[] w fun e w' => ∃ b base T D, e = .returned (.pointer (some ⟨b, 0, none⟩)) ∧ D.take 2 = [0, 0] ∧ T < 1000 ∧ KS w0 w' base b 3 T 2 [⟨5, 1, D⟩, ⟨5, 1, D⟩, ⟨6, 1, D⟩] := by
  obtain ⟨D, hD, hD2⟩ : ∃ D : List UInt8, emptyFs 3 = [⟨0, 0, D⟩, ⟨0, 0, D⟩, ⟨0, 0, D⟩] ∧ D.take 2 = [0, 0] := ⟨List.replicate 152064 0, rfl, by rw [List.take_replicate]; rfl⟩
  go_enter Try.func31, Try.ntmps31
  go_wp2_with fail
  have hnw := new_yes w0 w ho 3 2 (by decide)
  rw [hD] at hnw
  refine hnw.mono ?_
  clear hnw hD
  rintro e w1 ⟨b, rfl, k1⟩
  replace k1 := Lib.hid k1
  go_wp2_with fail
  refine (acquires_yes (fs' := [⟨5, 1, D⟩, ⟨0, 0, D⟩, ⟨0, 0, D⟩]) k1.out (by omega) 5 0 0 (by decide) (by kernel_rfl) (by kernel_rfl) (by kernel_rfl)).mono ?_
  rintro e w2 ⟨rfl, k2⟩
  replace k2 := Lib.hid k2
  clear k1
  go_wp2_with fail
  refine (acquires_yes (fs' := [⟨5, 1, D⟩, ⟨5, 1, D⟩, ⟨0, 0, D⟩]) k2.out (by omega) 5 1 0 (by decide) (by kernel_rfl) (by kernel_rfl) (by kernel_rfl)).mono ?_
  rintro e w3 ⟨rfl, k3⟩
  replace k3 := Lib.hid k3
  clear k2
  go_wp2_with fail
  refine (acquires_yes (fs' := [⟨5, 1, D⟩, ⟨5, 1, D⟩, ⟨0, 0, D⟩]) k3.out (by omega) 5 0 17 (by decide) (by kernel_rfl) (by kernel_rfl) (by kernel_rfl)).mono ?_
  rintro e w4 ⟨rfl, k4⟩
  replace k4 := Lib.hid k4
  clear k3
  go_wp2_with fail
  refine (acquires_yes (fs' := [⟨5, 1, D⟩, ⟨5, 1, D⟩, ⟨6, 1, D⟩]) k4.out (by omega) 6 2 0 (by decide) (by kernel_rfl) (by kernel_rfl) (by kernel_rfl)).mono ?_
  rintro e w5 ⟨rfl, k5⟩
  replace k5 := Lib.hid k5
  clear k4
  go_wp2_with fail
  refine (acquires_yes (fs' := [⟨5, 1, D⟩, ⟨5, 1, D⟩, ⟨6, 1, D⟩]) k5.out (by omega) 7 0 15 (by decide) (by kernel_rfl) (by kernel_rfl) (by kernel_rfl)).mono ?_
  rintro e w6 ⟨rfl, k6⟩
  replace k6 := Lib.hid k6
  clear k5
  go_wp2_with fail
  refine (free_yes k6.out 0 (by kernel_rfl)).mono ?_
  rintro e w7 ⟨rfl, rfl⟩
  go_wp2_with fail
  go_ret
  exact ⟨b, _, _, D, rfl, hD2, by omega, k6.out⟩
end
end Go.Proofs.Ytmbnmhcfafgnaaa
