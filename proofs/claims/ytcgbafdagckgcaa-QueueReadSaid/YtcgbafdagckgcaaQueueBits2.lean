/-
  Package queue: Bits.
-/
import Derived.Test.YtcgbafdagckgcaaQueueBits
import Derived.BigRegionIn
namespace Go.Mine
theorem results_tmps2 {fn : Func} {t u : Tmp} (h : fn.results = #[.tmp t, .tmp u]) (tmps : Array Value) (P : Program) (w : World) :
    (results fn tmps).run P w = .ok (.tuple #[tmps.getD t undef, tmps.getD u undef]) w := by
  simp [results, h]
end Go.Mine
namespace Go.Proofs.Ytcgbafdagckgcaa
open Go.RowKit Go.Mine Go.Shelf

attribute [local go_sem] Oper.semAt_some

/-- What lies there within the loop. -/
abbrev qbL (D B b : Nat) (o : Obj) (sv : Value) : List (Nat × Obj) :=
  [(D + 1, o), (D, .deferred (some [])), (B + 1, cellsO 55 [.pointer (some ⟨b, 0, none⟩)]), (B, cellsO 54 [sv])]

set_option maxRecDepth 100000 in
set_option maxHeartbeats 4000000 in
theorem qBits_any (w : World) {b r N f p came gone : Nat} {xs : List UInt8} {over : Bool} (h : Qu w b r N f xs p came gone over) :
    Calls Try.prog 46 #[.pointer (some ⟨b, 0, none⟩)] w fun e w' => ∃ u, e = .returned (.tuple #[u, .int .i64 (p : Int)]) ∧ Sl w' w.heap.size 5 1 u xs.length (byteCells xs) ∧ OnlyIn [] w w' := by
  obtain ⟨i0, hi0, hz0, hz1, hz2⟩ := info_parts Try.infoB
  have hmix := Try.mixed
  have c0 := h.blk.cell (i := 0) rfl
  have hN1 := h.pos
  have hN2 := h.le
  have hxl := h.len
  have hlt := h.lt
  have hQ := fun W (hW : OnlyIn [] w W) => h.only hW (by simp) (by simp)
  have hnn := qnone_no w b N (cs := []) c0 hN1 hN2
  clear h
  (refine (callsIn_wide (n := 0)).1 ?_; refine callsIn_of_wp_marks Try.func46 rfl trivial ?_ rfl; simp only [Try.ntmps46, List.size_toArray, List.length_cons, List.length_nil, Nat.reduceAdd, Nat.reduceSub, Array.replicate_succ, Array.replicate_zero, List.push_toArray, List.append_toArray, List.nil_append, List.cons_append])
  gi_wp2_with fail
  refine ⟨trivial, rfl, callsIn_wide.2 (hnn.mono ?_)⟩
  rintro e w' ⟨rfl, rfl⟩
  clear hnn
  gi_wp2_with fail
  generalize hw2 : World.alloc _ _ = w2
  obtain ⟨hO, hsz⟩ := (Keep.start [] w).more1 hw2
  clear hw2
  refine ⟨trivial, rfl, callsIn_wide.2 ((qbytes_any _ _).mono ?_)⟩
  rintro e w7 ⟨rfl, hw7⟩
  obtain ⟨hO7, hsz7⟩ := hO.more1 hw7
  simp only [List.cons_append, List.nil_append] at hO7
  rw [hsz] at hO7 hsz7 ⊢
  clear hO hw7
  have hDlo : w.heap.size + 2 ≤ w7.heap.size := by omega
  clear hsz7 hsz
  gi_wp2_with fail
  refine wpIn_range2 (gf := 69) (lb := #[.pointer (some ⟨w.heap.size + 1, 0, none⟩)]) rfl (enters_of Try.func69 (by kernel_rfl) rfl) ?_
  intro rc hround
  obtain ⟨hO1, -⟩ := hO7.more2 (o0 := .deferred (some [])) (o1 := .loop (rc .ready none)) rfl
  simp only [List.cons_append, List.nil_append] at hO1
  generalize hW0 : World.alloc (World.alloc w7 _) _ = W0 at *
  clear hW0 hO7
  generalize w7.heap.size = D at *
  generalize hBe : w.heap.size = B at hO1 hDlo hround hlt ⊢
  have hBB : w.heap.size ≤ B := by omega
  refine (bytes1_any (D + 1) (B + 1) (b := b) (r := r) (N := N) (f := f) (p := p) (came := came) (gone := gone) (xs := xs) (over := over)
    (fun k W => ∃ sv, Keep [] w W (qbL D B b (.loop (rc .ready none)) sv) ∧ Sl W w.heap.size 5 1 sv k (byteCells (xs.take k))) ?hR ?hD ?hY W0 ⟨_, hO1, Sl.nil _ _ _ _⟩).mono ?_
  case hR =>
    rintro k W ⟨sv, hO, _⟩
    exact ⟨hO.blk 2 rfl, hQ W hO.only⟩
  case hD =>
    rintro k m W ⟨sv, hO, hs⟩
    exact ⟨sv, hO.drewN m, hs.drewN m⟩
  case hY =>
    rintro k W hk ⟨sv, hO, hsl⟩
    refine hround _ W _ rfl (hO.at_ 0 _ _ rfl) ?_
    gi_wp2_with fail
    refine ⟨hO.at_ 0 _ _ rfl, ?_⟩
    have hOb : Keep [] w (W.putObj (D + 1) (.loop (rc .busy none))) (qbL D B b (.loop (rc .busy none)) sv) := hO.put 0 rfl (.loop (rc .busy none))
    have hsb := hsl.only ((OnlyIn.refl [D + 1] W).putObj (l := D + 1) (.inl (by simp)) (.loop (rc .busy none))) (fun g hg => by
      simp only [List.mem_singleton]
      rintro rfl
      exact hsl.ne_obj (hO.at_ 0 _ _ rfl) hg)
    generalize W.putObj (D + 1) (.loop (rc .busy none)) = Wc at hOb hsb ⊢
    clear hO hsl
    obtain ⟨As, cs, rfl, hcs⟩ := hsb.val
    have c2 := hOb.cell 3 0 rfl rfl
    have f2 := hOb.free 3 0 rfl
    obtain ⟨z, hz⟩ : ∃ z, (xs[k]'hk) = z := ⟨_, rfl⟩
    have htk : xs.take (k + 1) = xs.take k ++ [z] := by rw [List.take_succ_eq_append_getElem hk, hz]
    have hbw : w.heap.size ≤ Wc.heap.size := hOb.only.size
    have hfar := hOb.far hsb (by simp)
    rw [hz]
    gi_wp2_with (gi_at_builtin; refine wpListIn_append_sl rfl _ _ 54 rfl w.heap.size 5 i0 _ 1 1 Try.underlying54 hi0 hz0 hz1 hz2 rfl (by decide) (.slice As k cs) k _ rfl (hsb.alloc _) _ 1 (byteCells [z]) rfl (Rd.lit Wc (byteCells [z]) 5 1 rfl) (byteCells_one _) (by simp only [maxLen]; omega) (by omega) (by simp; omega) ?_; intro v' w8 hs' hg' hat'; obtain ⟨A', c', rfl, hc'⟩ := hs'.val; rw [← byteCells_append, ← htk] at hs'; have ht8 : OnlyIn (Value.slice As k cs).ownBlock.toList Wc w8 := ((OnlyIn.refl _ _).alloc _).grown hg' (fun g hg => .inl (by simp [hg])); have hO8 := hOb.step1 ht8 (fun k hk => .inr (hsb.own_lt k (by simpa using hk)).1) (fun b hb hm => hfar b hb (by simpa using hm)); have c3 := hO8.cell 3 0 rfl rfl; have f3 := hO8.free 3 0 rfl)
    have hO9 := hO8.set 3 0 rfl (.slice A' (k + 1) c')
    have hs9 := hs'.setCell (p := ⟨B, 0, none⟩) (hO8.far hs' (by simp) B (by simp)) (.slice A' (k + 1) c')
    have hs10 := hs9.only ((OnlyIn.refl [D + 1] _).putObj (l := D + 1) (.inl (by simp)) (.loop (rc .ready none))) (fun g hg => by
      simp only [List.mem_singleton]
      rintro rfl
      exact hs9.ne_obj (hO9.at_ 0 _ _ rfl) hg)
    exact ⟨hO9.at_ 0 _ _ rfl, rfl, _, hO9.put 0 rfl (.loop (rc .ready none)), hBe ▸ hs10⟩
  rintro e W2 ⟨⟨u, rfl⟩, sv, hO, hsl⟩
  rw [List.take_of_length_le (Nat.le_refl _)] at hsl
  refine ⟨⟨_, rfl⟩, .inl ⟨hO.at_ 0 _ _ rfl, ?_⟩⟩
  have hOb : Keep [] w (W2.putObj (D + 1) (.loop (rc .exhausted none))) (qbL D B b (.loop (rc .exhausted none)) sv) := hO.put 0 rfl (.loop (rc .exhausted none))
  have hsb := hsl.only ((OnlyIn.refl [D + 1] W2).putObj (l := D + 1) (.inl (by simp)) (.loop (rc .exhausted none))) (fun g hg => by
    simp only [List.mem_singleton]
    rintro rfl
    exact hsl.ne_obj (hO.at_ 0 _ _ rfl) hg)
  generalize W2.putObj (D + 1) (.loop (rc .exhausted none)) = Wc at hOb hsb ⊢
  clear hO hsl hround
  obtain ⟨As, cs, rfl, hcs⟩ := hsb.val
  have e0 := hOb.cell 3 0 rfl rfl
  have e4 := (hQ Wc hOb.only).blk.cell (i := 4) rfl
  have HH := Lib.hid (And.intro hOb hsb)
  clear hOb hsb
  gi_wp2_with fail
  gi_region
  gi_wp2_with fail
  obtain ⟨hOb, hsb⟩ := HH.out
  have hS := hOb.drew
  have hs := hsb.drew
  have hP := hS.put 1 rfl (.deferred none)
  have hsP := hs.only ((OnlyIn.refl [D] _).putObj (l := D) (.inl (by simp)) (.deferred none)) (fun g hg => by
    simp only [List.mem_singleton]
    rintro rfl
    obtain ⟨cur, hcc⟩ := hs.type_ _ hg
    rw [hS.at_ 1 _ _ rfl] at hcc
    cases hcc)
  refine leave_marks (D := D) rfl (hS.at_ 1 _ _ rfl) (results_tmps2 rfl _ _ _) ⟨_, rfl, ?_, hP.only⟩
  exact hBe ▸ hsP
end Go.Proofs.Ytcgbafdagckgcaa
