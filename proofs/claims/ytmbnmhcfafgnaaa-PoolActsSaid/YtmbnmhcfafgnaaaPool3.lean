/-
  Package pool: frees, Release.
-/
import Derived.Test.YtmbnmhcfafgnaaaPool2
namespace Go.Proofs.Ytmbnmhcfafgnaaa
open Go.RowKit Go.Mine

/-- A pool while its free numbers turn. -/
def PlC (w0 : World) (F0 : List Nat) (base N T : Nat) (B : PB) (fs : List Fr) (hf : Int → Option Int) (F : List Nat) (W : World) : Prop :=
  PlR W base N T B fs hf ∧ (∀ k ∈ F, ¬ B.ins N k) ∧ OnlyIn F0 w0 W ∧ ∀ g ∈ F, g ∈ F0 ∨ w0.heap.size ≤ g
theorem PlC.step {w0 : World} {F0 : List Nat} {base N T : Nat} {B : PB} {fs : List Fr} {hf : Int → Option Int} : ∀ F F' W W', PlC w0 F0 base N T B fs hf F W → OnlyIn F W W' → (∀ g ∈ F', g ∈ F ∨ W.heap.size ≤ g) → PlC w0 F0 base N T B fs hf F' W' := by
  rintro F F' W W' ⟨h1, h2, h3, h4⟩ ht hF
  refine ⟨h1.only ht h2, fun k hk hin => ?_, h3.then ht h4, fun g hg => ?_⟩
  · rcases hF k hk with hh | hh
    · exact h2 k hh hin
    · have := h1.lt hin
      omega
  · rcases hF g hg with hh | hh
    · exact h4 g hh
    · exact .inr (Nat.le_trans h3.size hh)

section
variable {w w' : World} {base b N T : Nat} {quota : Int} {B : PB} {iv : Value} {il : List Nat} {fs : List Fr}
theorem PlAt.outs (h : PlAt w base b N T quota B iv il fs) : ∀ k ∈ b :: iv.ownBlock.toList, ¬ B.ins N k := by
  intro k hk
  simp only [List.mem_cons, Option.mem_toList] at hk
  rcases hk with rfl | hk
  · exact h.rest.out h.blk (by decide) (by decide) (by decide)
  · obtain ⟨-, ⟨h1, -⟩ | ⟨g, off, cap, cur, h1, -, h6, -, -, -, -⟩⟩ := h.sl
    · rw [h1] at hk; cases hk
    · rw [h1] at hk
      injection hk with hk
      subst hk
      exact h.rest.out h6 (by decide) (by decide) (by decide)
set_option maxRecDepth 100000 in
theorem mipI (a : Addr) (W : World) : (Instr.makeInterface 92 (.pointer (some a))).run Try.prog W = .ok (.iface 92 (.pointer (some a))) W := by kernel_rfl
set_option maxRecDepth 100000 in
theorem miI (x : Int) (W : World) : (Instr.makeInterface 3 (.int .i64 x)).run Try.prog W = .ok (.iface 3 (.int .i64 x)) W := by kernel_rfl

set_option maxRecDepth 100000 in
set_option maxHeartbeats 2000000 in
theorem pl_frees (h : PlAt w base b N T quota B iv il fs) {i : Nat} (hi : i < N) {o : Int} (ho : (frAt fs i).owner = o) (h0 : 0 < o ∧ o ≤ 2147483647) (hT : T < 100000) :
    Calls Try.prog 54 #[.pointer (some ⟨b, 0, none⟩), .int .i64 (i : Int)] w fun e w' => (∃ v, e = .returned v) ∧ PlOut w w' base b N (T + 1) quota B iv (fs.set i ⟨0, 0, (frAt fs i).data⟩) := by
  have c0 := h.blk.cell (i := 0) rfl
  have c1 := h.rest.ptr hi
  have hF := h.rest.fr i hi
  have hil : i < fs.length := by rw [h.ls]; exact hi
  have c2 := hF.blk.cell (i := 0) rfl
  rw [ho] at c2
  have hnl := heldN_le fs o
  have hls := h.ls
  have h64 := h.n64
  have hm := more_any w (h.blk.cell (i := 2) rfl) h.rest.map hT o (by omega) (-1) (heldN fs o) (heldF_getD fs o) (by omega) h.blk.lt
  have hbm : b ∉ [B.mb] := fun hk => by
    simp only [List.mem_singleton] at hk
    exact h.outs b (by simp) (.inr (.inl hk))
  have hfm : B.fb i ∉ [B.mb] := fun hk => by
    simp only [List.mem_singleton] at hk
    exact h.rest.map.ne_blk hF.blk hk.symm
  have mip := mipI
  have mi := miI
  have HH := Lib.hid h
  clear h hnl
  go_enter Try.func54, Try.ntmps54
  go_wp2_with fail
  refine hm.mono ?_
  rintro e w1 ⟨⟨v, rfl⟩, hM, ht⟩
  clear hm
  have hF1 : FrAt w1 (B.fb i) (B.bo i) (frAt fs i) := (HH.out.rest.setMap ht hM).fr i hi
  have g0 := hF1.blk.cell (i := 0) rfl
  have g1 := hF1.blk.cell (i := 1) rfl
  have f0 := hF1.blk.free 0
  have f1 := (hF1.blk.set 0 (.int .i64 0)).free 1
  have hfr : FrAt ((w1.setCell ⟨B.fb i, 0, none⟩ (.int .i64 0)).setCell ⟨B.fb i, 1, none⟩ (.int .i64 0)) (B.fb i) (B.bo i) ⟨0, 0, (frAt fs i).data⟩ :=
    ⟨(hF1.blk.set 0 _).set 1 _, hF1.len, hF1.no, fun bb hb => ((hF1.yes bb hb).far (p := ⟨B.fb i, 0, none⟩) ((hF1.yes bb hb).ne_ hF1.blk (by decide)) _).far (p := ⟨B.fb i, 1, none⟩) ((hF1.yes bb hb).ne_ hF1.blk (by decide)) _⟩
  have ht2 : OnlyIn [B.fb i] w1 ((w1.setCell ⟨B.fb i, 0, none⟩ (.int .i64 0)).setCell ⟨B.fb i, 1, none⟩ (.int .i64 0)) := ((OnlyIn.refl _ _).setCell (.inl (by simp)) _).setCell (.inl (by simp)) _
  have hR2 := ((HH.out.rest.setMap ht hM).setFr hi ht2 hfr).ext (hf' := heldF (fs.set i ⟨0, 0, (frAt fs i).data⟩)) (fun x => by
    rw [heldF_give hil ho h0.1 (f := ⟨0, 0, (frAt fs i).data⟩) rfl x]
    by_cases hz : heldN fs o = 1
    · rw [if_pos hz, if_pos (by omega)]
    · rw [if_neg hz, if_neg (by omega)]; rfl)
  have htt : OnlyIn (b :: B.mb :: (iv.ownBlock.toList ++ B.fbs)) w ((w1.setCell ⟨B.fb i, 0, none⟩ (.int .i64 0)).setCell ⟨B.fb i, 1, none⟩ (.int .i64 0)) := by
    have hmem := HH.out.fb_mem hi
    refine (ht.mono (fun k _ hk => ?_)).then ht2 (fun k hk => .inl ?_)
    · simp only [List.mem_singleton] at hk
      simp [hk]
    · simp only [List.mem_singleton] at hk
      simp [hk, hmem]
  generalize hw2 : (w1.setCell ⟨B.fb i, 0, none⟩ (.int .i64 0)).setCell ⟨B.fb i, 1, none⟩ (.int .i64 0) = w2 at hfr ht2 hR2 htt
  have hbf : b ≠ B.fb i := HH.out.blk.ne_ hF.blk (by decide)
  have hst : StI b base (.slice (some ⟨B.ab, 0, none⟩) N N) (.map (some B.mb)) (.int .i64 quota) (PlC w (b :: B.mb :: (iv.ownBlock.toList ++ B.fbs)) base N (T + 1) B (fs.set i ⟨0, 0, (frAt fs i).data⟩) (heldF (fs.set i ⟨0, 0, (frAt fs i).data⟩))) il w2 := by
    refine ⟨iv, (HH.out.blk.only ht hbm).only ht2 (by simp [hbf]), (HH.out.sl.only ht (fun g hg hk => ?_)).only ht2 (fun g hg hk => ?_), ?_, by have := HH.out.il_len; omega, hR2, ?_, htt, ?_⟩
    · simp only [List.mem_singleton] at hk
      exact HH.out.outs g (by simp [hg]) (.inr (.inl hk))
    · simp only [List.mem_singleton] at hk
      exact HH.out.outs g (by simp [hg]) (.inr (.inr (.inl ⟨i, hi, hk.symm⟩)))
    · exact Nat.le_trans HH.out.bw (Nat.le_trans ht.size ht2.size)
    · exact fun k hk => HH.out.outs k hk
    · intro g hg
      simp only [List.mem_cons, Option.mem_toList] at hg
      rcases hg with rfl | hg
      · exact .inl (by simp)
      · exact .inl (by simp [hg])
  have hpu := Push_any (heapPool b base _ _ _ _ PlC.step) hst (by have := HH.out.il_len; omega) HH.out.hp i
  have hbx : boxN i = .iface 3 (.int .i64 (i : Int)) := rfl
  rw [hbx] at hpu
  have HX := Lib.hid (And.intro ho h0)
  clear hst hR2 ht2 hfr htt ht hM hF hF1
  go_wp2_with fail
  refine hpu.mono ?_
  clear hpu
  rintro e w3 ⟨⟨v2, rfl⟩, l', hp, hh, iv', hB, hs, hb, hl, hR, ho', ht, hg⟩
  have HZ := Lib.hid (And.intro hp (And.intro hh (And.intro hB (And.intro hs (And.intro hR (And.intro ho' (And.intro ht hg)))))))
  clear hp hh hB hs hb hR ho' ht hg
  go_wp2_with fail
  go_end0
  obtain ⟨hp, hh, hB, hs, hR, ho', ht, hg⟩ := HZ.out
  refine ⟨⟨_, rfl⟩, iv', l', ⟨hB, hs, hp.trans ((HH.out.pm.append_right _).trans (freeI_give hil (by rw [HX.out.1]; omega) rfl).symm), hh, hR, HH.out.bb, Nat.le_trans HH.out.bw ht.size, HH.out.q1, HH.out.n64⟩, ht, fun g hg' => ?_⟩
  have := hg g (by simp [hg'])
  rcases this with h9 | h9
  · simp only [List.mem_cons, List.mem_append, Option.mem_toList] at h9
    rcases h9 with h9 | h9 | h9 | h9
    · exact absurd h9 ((hB.ne_own hs (by decide)) <| by rw [hg', ·])
    · exact absurd (.inr (.inl h9)) (ho' g (by simp [hg']))
    · exact .inl h9
    · refine absurd (.inr (.inr (.inl ?_))) (ho' g (by simp [hg']))
      obtain ⟨j, hj, hx⟩ := List.mem_iff_getElem.1 h9
      refine ⟨j, by rw [← HH.out.rest.lf]; exact hj, ?_⟩
      unfold PB.fb
      rw [List.getD_eq_getElem?_getD, List.getElem?_eq_getElem hj]
      exact hx
  · exact .inr h9
end
end Go.Proofs.Ytmbnmhcfafgnaaa
