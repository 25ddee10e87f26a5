/-
  Package press: Victim.
-/
import Derived.Test.YtmbnmhcfafgnaaaPressFns
import Derived.Test.YtmbnmhcfafgnaaaPressVict
import Derived.Test.YtmbnmhcfafgnaaaPressRef2
import Derived.Test.YtmbnmhcfafgnaaaTwo
namespace Go.Proofs.Ytmbnmhcfafgnaaa
open Go.RowKit Go.Mine Go.Shelf

attribute [local go_sem] Oper.semAt_some

/-- Beside the blocks F that are another's: what is kept. -/
def CK (w : World) (L : List (Nat × Obj)) (F : List Nat) (W : World) : Prop := Keep [] w W L ∧ (∀ b ∈ L.map (·.1), b ∉ F) ∧ ∀ g ∈ F, w.heap.size ≤ g
theorem CK.next {w : World} {L : List (Nat × Obj)} {F F' : List Nat} {W W' : World} (h : CK w L F W) (ht : OnlyIn F W W') (hF : ∀ g ∈ F', g ∈ F ∨ W.heap.size ≤ g) : CK w L F' W' := by
  obtain ⟨h1, h2, h3⟩ := h
  refine ⟨h1.step1 ht (fun k hk => .inr (h3 k hk)) h2, fun b hb hm => ?_, fun g hg => ?_⟩
  · rcases hF b hm with h | h
    · exact h2 b hb h
    · obtain ⟨⟨b', o⟩, hbm, rfl⟩ := List.mem_map.1 hb
      obtain ⟨i, hi, hie⟩ := List.mem_iff_getElem.1 hbm
      have := h1.lt (n := i) (b := b') (o := o) (by rw [List.getElem?_eq_getElem hi, hie])
      simp only at h
      omega
  · rcases hF g hg with h | h
    · exact h3 g h
    · have := h1.only.size; omega

abbrev viL (D H B0 : Nat) (o : Obj) (lv : Value) (x e : Int) : List (Nat × Obj) :=
  [(D + 1, o), (D, .deferred (some [])), (B0, cellsO 22 [lv]), (H + 1, cellsO 24 [.int .i64 e]), (H, cellsO 3 [.int .i64 x])]

set_option maxRecDepth 100000 in
set_option maxHeartbeats 4000000 in
theorem hVictim_any (w : World) (A : Option Addr) (n c : Nat) (l : List Holder) (h : Rd w 2 (.slice A n c) n (hcs l)) (hn : l.length = n) (hnc : n ≤ c) :
    Calls Try.prog 14 #[.slice A n c] w fun e w' => e = .returned (.tuple #[.int .i64 (victimF l).1, .int .i64 (victimF l).2]) ∧ OnlyIn [] w w' := by
  have hch := fun w1 (ho : OnlyIn [] w w1) => hCheck_any w1 A n c l (h.cells fun p u hp => ho.cell hp (by simp)) hn hnc
  have hv0 : OkH l → vict l = [] → victimF l = (0, 16) := fun hO hv => by unfold victimF; rw [if_pos hO, hv]
  have hv1 : OkH l → ∀ x r, vict l = x :: r → victimF l = (x.id, 0) := fun hO x r hv => by unfold victimF; rw [if_pos hO, hv]
  have hv2 : ¬ OkH l → victimF l = (0, 2) := fun hO => by unfold victimF; rw [if_neg hO]
  obtain ⟨⟨rx, re⟩, hr⟩ : ∃ z, victimF l = z := ⟨_, rfl⟩
  rw [hr] at hv0 hv1 hv2 ⊢
  simp only [Prod.mk.injEq] at hv0 hv1 hv2
  simp only
  clear hr
  rcases checkF_cases l with ⟨hO, e⟩ | ⟨hO, e⟩
  · have hv0 := hv0 hO
    have hv1 := hv1 hO
    have HV := Lib.hid (And.intro hv0 hv1)
    clear hv0 hv1 hv2
    rw [e] at hch
    have HRD := Lib.hid (And.intro h hn)
    have HCH := Lib.hid hch
    clear h e hch
    (refine (callsIn_wide (n := 0)).1 ?_; refine callsIn_of_wp_marks Try.func14 rfl trivial ?_ rfl; simp only [Try.ntmps14, List.size_toArray, List.length_cons, List.length_nil, Nat.reduceAdd, Nat.reduceSub, Array.replicate_succ, Array.replicate_zero, List.push_toArray, List.append_toArray, List.nil_append, List.cons_append])
    gi_wp2_with fail
    generalize hw2 : World.alloc (World.alloc _ _) _ = w2
    obtain ⟨hK, hsz⟩ := (Keep.start [] w).more2 hw2
    clear hw2
    refine ⟨trivial, rfl, callsIn_wide.2 ((HCH.out _ hK.only).mono ?_)⟩
    rintro e w3 ⟨rfl, ht3⟩
    have hK3 := hK.only0 ht3
    have hs3 : w2.heap.size ≤ w3.heap.size := ht3.size
    clear hK ht3
    gi_wp2_with fail
    refine ⟨trivial, rfl, callsIn_wide.2 ((victims_any w3 A n c).mono ?_)⟩
    rintro e w4 ⟨rfl, hw4⟩
    obtain ⟨hK4, hs4⟩ := hK3.more1 hw4
    simp only [List.cons_append, List.nil_append] at hK4
    generalize hB0 : w3.heap.size = B0 at *
    clear hw4 hK3
    gi_wp2_with fail
    refine wpIn_range2 (gf := 69) (lb := #[.pointer (some ⟨B0, 0, none⟩)]) rfl (enters_of Try.func69 (by kernel_rfl) rfl) ?_
    intro rc hround
    obtain ⟨hO1, -⟩ := hK4.more2 (o0 := .deferred (some [])) (o1 := .loop (rc .ready none)) rfl
    simp only [List.cons_append, List.nil_append] at hO1
    generalize hW0 : World.alloc (World.alloc w4 _) _ = W0 at *
    clear hW0 hK4
    generalize w4.heap.size = D at *
    generalize hH : w.heap.size = H at *
    have hO2 : Keep [] w W0 (viL D H B0 (.loop (rc .ready none)) (.slice A n c) 0 0) := hO1
    clear hO1 hs4 hs3 hsz hB0
    have hrd := fun W (ho : OnlyIn [] w W) => HRD.out.1.cells (w' := W) fun p u hp => ho.cell hp (by simp)
    refine (vict1_any (D + 1) B0 (.slice A n c) l hO
      (fun F k W => CK w (viL D H B0 (.loop (rc .ready none)) (.slice A n c) 0 0) F W ∧ k = 0)
      (fun k W => ∃ x r, vict l = x :: r ∧ Keep [] w W (viL D H B0 (.loop (rc .done (some .ret))) (.slice A n c) x.id 0)) ?hL ?hS ?hY _ ⟨⟨hO2, by simp, by simp⟩, rfl⟩).mono ?_
    case hL =>
      rintro F k W ⟨⟨hK, -, -⟩, rfl⟩
      exact ⟨hK.blk 2 rfl, by rw [HRD.out.2]; exact hrd _ hK.only⟩
    case hS =>
      rintro k F F' W W' ⟨h, rfl⟩ ht hF
      exact ⟨h.next ht hF, rfl⟩
    case hY =>
      rintro F k x W ⟨⟨hK, hn1, hn2⟩, rfl⟩ hx hFl
      refine hround _ W _ rfl (hK.at_ 0 _ _ rfl) ?_
      gi_wp2_with fail
      refine ⟨hK.at_ 0 _ _ rfl, ?_⟩
      have hKb := hK.put 0 rfl (.loop (rc .busy none))
      simp only [List.set_cons_zero] at hKb
      generalize W.putObj (D + 1) _ = Wc at hKb ⊢
      have fp0 := hKb.free 4 0 rfl
      have fe := hKb.free 3 0 rfl
      have cp0 := hKb.cell 4 0 rfl rfl
      have ce := hKb.cell 3 0 rfl rfl
      obtain ⟨r, hv⟩ : ∃ r, vict l = x :: r := by
        cases hv : vict l with
        | nil => rw [hv] at hx; cases hx
        | cons y r => rw [hv] at hx; injection hx with hx; exact ⟨r, by rw [hx]⟩
      have HK := Lib.hid (And.intro hKb hv)
      clear hKb hv hK hround hx hO2 hrd
      generalize hQQ : outOf _ _ _ = QQ
      gi_wp2_with fail
      rw [← hQQ]
      have hS := ((HK.out.1.set 4 0 rfl (.int .i64 x.id)).set 3 0 rfl (.int .i64 0))
      exact ⟨hS.at_ 0 _ _ rfl, rfl, x, ⟨r, HK.out.2⟩, hS.put 0 rfl (.loop (rc .done (some .ret)))⟩
    rintro e W2 ⟨⟨u, rfl⟩, (⟨F, ⟨hK, -, -⟩, hv0⟩ | ⟨k, hk, x, r, hv, hK⟩)⟩
    · refine ⟨⟨_, rfl⟩, .inl ⟨hK.at_ 0 _ _ rfl, ?_⟩⟩
      have hOb := hK.put 0 rfl (.loop (rc .exhausted none))
      generalize W2.putObj (D + 1) (.loop (rc .exhausted none)) = Wc at hOb ⊢
      clear hK hround
      have cp0 := hOb.cell 4 0 rfl rfl
      have ce := hOb.cell 3 0 rfl rfl
      have fp0 := hOb.free 4 0 rfl
      have fe := hOb.free 3 0 rfl
      obtain ⟨rfl, rfl⟩ := HV.out.1 (List.eq_nil_of_length_eq_zero hv0)
      have HO := Lib.hid hOb
      clear hOb hv0 hO2 hrd
      gi_wp2_with fail
      have hOb := HO.out
      have hS := ((hOb.set 4 0 rfl (.int .i64 0)).set 3 0 rfl (.int .i64 16))
      have hP := hS.put 1 rfl (.deferred none)
      exact leave_marks (D := D) rfl (hS.at_ 1 _ _ rfl) (res2_cells rfl _ rfl rfl (load_int (hP.blk 4 rfl) Try.underlying3) (load_int (hP.blk 3 rfl) Try.underlying24)) ⟨rfl, hP.only⟩
    · refine ⟨⟨_, rfl⟩, .inr ⟨_, hK.at_ 0 _ _ rfl, ?_⟩⟩
      have hOb := hK.put 0 rfl (.loop (rc .exhausted (some .ret)))
      generalize W2.putObj (D + 1) _ = Wc at hOb ⊢
      obtain ⟨rfl, rfl⟩ := HV.out.2 x r hv
      clear hv
      gi_wp2_with fail
      have hP := hOb.put 1 rfl (.deferred none)
      exact leave_marks (D := D) rfl (hOb.at_ 1 _ _ rfl) (res2_cells rfl _ rfl rfl (load_int (hP.blk 4 rfl) Try.underlying3) (load_int (hP.blk 3 rfl) Try.underlying24)) ⟨rfl, hP.only⟩
  · obtain ⟨rfl, rfl⟩ := hv2 hO
    rw [e] at hch
    clear h hO e hn hv0 hv1 hv2
    go_enter Try.func14, Try.ntmps14
    go_wp2_with fail
    generalize hw2 : World.alloc (World.alloc _ _) _ = w2
    obtain ⟨hK, -⟩ := (Keep.start [] w).more2 hw2
    clear hw2
    refine (hch _ hK.only).mono ?_
    rintro e w3 ⟨rfl, ht3⟩
    have hK3 := hK.only0 ht3
    have cp0 := hK3.cell 1 0 rfl rfl
    have ce := hK3.cell 0 0 rfl rfl
    have fp0 := hK3.free 1 0 rfl
    have fe := hK3.free 0 0 rfl
    have HK := Lib.hid hK3
    clear hK hK3 ht3 hch
    go_wp2_with fail
    have hS := ((HK.out.set 1 0 rfl (.int .i64 0)).set 0 0 rfl (.int .i64 2))
    exact bodyPost_ret (res2_cells rfl _ rfl rfl (load_int (hS.blk 1 rfl) Try.underlying3) (load_int (hS.blk 0 rfl) Try.underlying24)) rfl ⟨rfl, hS.only⟩
end Go.Proofs.Ytmbnmhcfafgnaaa
