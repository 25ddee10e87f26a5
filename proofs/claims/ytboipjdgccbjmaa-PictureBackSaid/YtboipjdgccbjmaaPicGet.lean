/-
  Package picture: Get.
-/
import Derived.Test.YtboipjdgccbjmaaPicSpare
import Derived.Test.YtboipjdgccbjmaaRange
import Derived.BigRegionIn
namespace Go.Mine
open Go.RowKit
theorem results_cell_tmp2 {P : Program} {w : World} {fn : Func} {p q r : Tmp} {b : Nat} {ty : TypeId} {v : Value} (h : fn.results = #[.cell p ty, .tmp q, .tmp r]) (tmps : Array Value) (hp : tmps.getD p undef = .pointer (some ⟨b, 0, none⟩))
    (hl : (loadVar ty ⟨b, 0, none⟩).run P w = .ok v w) : (results fn tmps).run P w = .ok (.tuple #[v, tmps.getD q undef, tmps.getD r undef]) w := by
  have ha : (asAddr (.pointer (some ⟨b, 0, none⟩))).run P w = .ok ⟨b, 0, none⟩ w := rfl
  simp only [results, h]
  simp only [Array.getD_eq_getD_getElem?] at hp
  simp [Sem.run_bind, Result.andThen, hp, ha, hl]
/-- Objects of other kinds are not the block of a slice. -/
theorem Keep.far {S : List Nat} {w0 w : World} {L : List (Nat × Obj)} (h : Keep S w0 w L) {base size n : Nat} {e : TypeId} {v : Value} {xs : List Value} (hs : Sl w base e size v n xs) (hL : ∀ x ∈ L, ∀ cur, x.2 ≠ .cells cur e (0, 0)) :
    ∀ b, b ∈ L.map (·.1) → v.ownBlock ≠ some b := by
  intro b hb hv
  obtain ⟨⟨b', o⟩, hx, rfl⟩ := List.mem_map.1 hb
  obtain ⟨n, hn⟩ := List.getElem?_of_mem hx
  obtain ⟨cur, hc⟩ := hs.type_ _ hv
  have := h.at_ n _ o hn
  rw [hc] at this
  injection this with this
  exact hL _ hx cur this.symm
/-- Time, type, spare bytes, bits, the fault. -/
def picN (bs : List UInt8) (i : Nat) : Nat × Nat × List UInt8 × Nat × Int :=
  if 8 * bs.length < i + 11 then (0, 0, [], 0, 5)
  else if (sparesOf bs (i + 11)).1 = 0 then (numAt bs i 5, numAt bs (i + 5) 6, (sparesOf bs (i + 11)).2.1, 11 + (sparesOf bs (i + 11)).2.2, 0) else (0, 0, [], 0, (sparesOf bs (i + 11)).1)
def picAll (bs : List UInt8) (i : Int) : Nat × Nat × List UInt8 × Nat × Int := if i < 0 then (0, 0, [], 0, 3) else picN bs i.toNat
/-- What Get tells. -/
def PicEnd (w0 w : World) (e : TypeId) (G : Nat × Nat × List UInt8 × Nat × Int) (r : Ending) : Prop :=
  ∃ u, r = .returned (.tuple #[.agg #[.int .i64 (G.1 : Int), .int .i64 (G.2.1 : Int), u], .int .i64 (G.2.2.2.1 : Int), .int .i64 G.2.2.2.2]) ∧ Sl w w0.heap.size e 1 u G.2.2.1.length (byteCells G.2.2.1) ∧ OnlyIn [] w0 w
end Go.Mine
namespace Go.Proofs.Ytboipjdgccbjmaa
open Go.RowKit Go.Mine Go.Shelf

attribute [local go_sem] Oper.semAt_some

/-- What lies there within the loop. -/
abbrev picL (D H B : Nat) (o : Obj) (t y : Int) (sv : Value) : List (Nat × Obj) :=
  [(D + 1, o), (D, .deferred (some [])), (H + 1, cellsO 84 [.pointer (some ⟨B + 1, 0, none⟩)]), (H, cellsO 24 [.int .i64 t, .int .i64 y, sv]), (B, cellsO 24 [.int .i64 0, .int .i64 0, .slice none 0 0])]

theorem loadHead {w : World} {b : Nat} {t y : Int} {v : Value} (h : Blk w b 24 [.int .i64 t, .int .i64 y, v]) : (loadVar 24 ⟨b, 0, none⟩).run Try.prog w = .ok (.agg #[.int .i64 t, .int .i64 y, v]) w := by
  have c0 := h.cell (i := 0) rfl
  have c1 := h.cell (i := 1) rfl
  have c2 := h.cell (i := 2) rfl
  go_simp

theorem takeF_bound {bs : List UInt8} {a bad : Int} {n : Nat} (hl : bs.length ≤ 1000000000) (h0 : 0 ≤ a) (h1 : a ≤ 9223372036854775807) : 0 ≤ (takeF bs a bad n).2.1 ∧ (takeF bs a bad n).2.1 ≤ 9223372036854775807 := by
  unfold takeF
  split
  · exact ⟨h0, h1⟩
  · split
    · exact ⟨h0, h1⟩
    · simp only; omega
theorem takeF_zero (bs : List UInt8) (a n : Nat) : takeF bs (a : Int) 0 n = if 8 * bs.length < a + n then (0, (a : Int), 5) else ((numAt bs a n : Int), ((a + n : Nat) : Int), 0) := by
  unfold takeF
  rw [if_neg (by simp)]
  by_cases h : 8 * bs.length < a + n
  · rw [if_pos h, if_pos (by omega)]
  · rw [if_neg h, if_neg (by omega)]; simp
theorem takeF_bad (bs : List UInt8) (a bad : Int) (n : Nat) (h : bad ≠ 0) : takeF bs a bad n = (0, a, bad) := by
  unfold takeF; rw [if_pos h]
/-- What the takes come to is what is told. -/
theorem picN_end (bs : List UInt8) (i : Nat) (x5 a5 b5 x6 a6 b6 : Int) (p : Nat) (h5 : takeF bs (i : Int) 0 5 = (x5, a5, b5)) (h6 : takeF bs a5 b5 6 = (x6, a6, b6)) (hp : a6 = (p : Int)) :
    (b6 = 0 → p ≤ 8 * bs.length) ∧
    (∀ (ys : List UInt8) (a' : Int), b6 = 0 → sparesF bs 32 p = (0, ys) → a' = ((p + 9 * ys.length + 1 : Nat) : Int) → ∃ X5 X6 N : Nat, picN bs i = (X5, X6, ys, N, 0) ∧ x5 = (X5 : Int) ∧ x6 = (X6 : Int) ∧ a' - (i : Int) = (N : Int)) ∧
    (∀ bad' : Int, bad' ≠ 0 → ((b6 = 0 ∧ (sparesF bs 32 p).1 = bad') ∨ (b6 ≠ 0 ∧ bad' = b6)) → picN bs i = (0, 0, [], 0, bad')) := by
  rw [takeF_zero] at h5
  by_cases m5 : 8 * bs.length < i + 5
  · rw [if_pos m5] at h5
    obtain ⟨rfl, rfl, rfl⟩ : 0 = x5 ∧ (i : Int) = a5 ∧ 5 = b5 := by simpa using h5
    rw [takeF_bad _ _ _ _ (by decide)] at h6
    obtain ⟨rfl, rfl, rfl⟩ : 0 = x6 ∧ (i : Int) = a6 ∧ 5 = b6 := by simpa using h6
    refine ⟨fun h => by simp at h, fun _ _ h => by simp at h, fun bad' hb h => ?_⟩
    rcases h with ⟨h, _⟩ | ⟨_, rfl⟩
    · simp at h
    · rw [picN, if_pos (by omega)]
  · rw [if_neg m5] at h5
    obtain ⟨rfl, rfl, rfl⟩ : (numAt bs i 5 : Int) = x5 ∧ ((i + 5 : Nat) : Int) = a5 ∧ 0 = b5 := by simpa using h5
    rw [takeF_zero] at h6
    by_cases m11 : 8 * bs.length < i + 5 + 6
    · rw [if_pos m11] at h6
      obtain ⟨rfl, rfl, rfl⟩ : 0 = x6 ∧ ((i + 5 : Nat) : Int) = a6 ∧ 5 = b6 := by simpa using h6
      refine ⟨fun h => by simp at h, fun _ _ h => by simp at h, fun bad' hb h => ?_⟩
      rcases h with ⟨h, _⟩ | ⟨_, rfl⟩
      · simp at h
      · rw [picN, if_pos (by omega)]
    · rw [if_neg m11] at h6
      obtain ⟨rfl, rfl, rfl⟩ : (numAt bs (i + 5) 6 : Int) = x6 ∧ ((i + 5 + 6 : Nat) : Int) = a6 ∧ 0 = b6 := by simpa using h6
      obtain rfl : p = i + 11 := by omega
      refine ⟨fun _ => by omega, fun ys a' _ hs ha => ?_, fun bad' hb h => ?_⟩
      · have hso : sparesOf bs (i + 11) = (0, ys, 9 * ys.length + 1) := by unfold sparesOf; rw [hs]; simp
        refine ⟨numAt bs i 5, numAt bs (i + 5) 6, 11 + (9 * ys.length + 1), ?_, rfl, rfl, by omega⟩
        rw [picN, if_neg (by omega), hso, if_pos rfl]
      · rcases h with ⟨_, h⟩ | ⟨h, _⟩
        · have hso : sparesOf bs (i + 11) = (bad', [], 0) := by unfold sparesOf; rw [h, if_neg hb]
          rw [picN, if_neg (by omega), hso, if_neg hb]
        · simp at h
set_option maxRecDepth 100000 in
set_option maxHeartbeats 4000000 in
theorem pGet_nonneg (w : World) (v : Value) (bs : List UInt8) (hr : Rd w 1 v bs.length (byteCells bs)) (hl : bs.length ≤ 1000000000) (i : Nat) (hi : i ≤ 9223372036854775807) :
    Calls Try.prog 22 #[v, .int .i64 (i : Int)] w fun e w' => PicEnd w w' 5 (picN bs i) e := by
  have hge : ¬ ((i : Int) < 0) := by omega
  obtain ⟨i0, hi0, hz0, hz1, hz2⟩ := info_parts Try.infoB
  obtain ⟨A, c, rfl⟩ : ∃ A c, v = .slice A bs.length c := by
    obtain ⟨-, A, c, rfl, -⟩ := hr
    exact ⟨A, c, rfl⟩
  (refine (callsIn_wide (n := 0)).1 ?_; refine callsIn_of_wp_marks Try.func22 rfl trivial ?_ rfl; simp only [Try.ntmps22, List.size_toArray, List.length_cons, List.length_nil, Nat.reduceAdd, Nat.reduceSub, Array.replicate_succ, Array.replicate_zero, List.push_toArray, List.append_toArray, List.nil_append, List.cons_append])
  gi_wp2_with fail
  generalize hw2 : World.alloc _ _ = w2
  obtain ⟨hO, hsz⟩ := (Keep.start [] w).more2 hw2
  clear hw2
  have ht5 := take_any w2 (w.heap.size + 1) (.slice A bs.length c) bs (i : Int) 0 5 (hO.blk 0 rfl) (hr.cells fun p u hp => hO.only.cell hp (by simp)) hl (by omega) (by omega) (by omega)
  rw [show ((5 : Nat) : Int) = 5 from rfl] at ht5
  have hb5 := takeF_bound (bs := bs) (a := (i : Int)) (bad := 0) (n := 5) hl (by omega) (by omega)
  obtain ⟨⟨x5, a5, b5⟩, h5⟩ : ∃ r, takeF bs (i : Int) 0 5 = r := ⟨_, rfl⟩
  rw [h5] at ht5 hb5
  simp only at ht5 hb5
  refine ⟨trivial, rfl, callsIn_wide.2 (ht5.mono ?_)⟩
  rintro e w3 ⟨rfl, hc3, ht3⟩
  have hO3 := hO.set_at 0 rfl ht3 hc3
  have hsz3 : w2.heap.size ≤ w3.heap.size := ht3.size
  clear ht5 hO ht3
  gi_wp2_with fail
  have ht6 := take_any w3 (w.heap.size + 1) (.slice A bs.length c) bs a5 b5 6 hc3 (hr.cells fun p u hp => hO3.only.cell hp (by simp)) hl (by omega) hb5.1 hb5.2
  rw [show ((6 : Nat) : Int) = 6 from rfl] at ht6
  have hb6 := takeF_bound (bs := bs) (a := a5) (bad := b5) (n := 6) hl hb5.1 hb5.2
  obtain ⟨⟨x6, a6, b6⟩, h6⟩ : ∃ r, takeF bs a5 b5 6 = r := ⟨_, rfl⟩
  rw [h6] at ht6 hb6
  simp only at ht6 hb6
  refine ⟨trivial, rfl, callsIn_wide.2 (ht6.mono ?_)⟩
  rintro e w4 ⟨rfl, hc4, ht4⟩
  have hO4 := hO3.set_at 0 rfl ht4 hc4
  have hsz4 : w3.heap.size ≤ w4.heap.size := ht4.size
  clear ht6 hO3 ht4 hc3
  gi_wp2_with fail
  refine ⟨trivial, rfl, callsIn_wide.2 ((spare_any _ _).mono ?_)⟩
  rintro e w7 ⟨rfl, hw7⟩
  obtain ⟨hO7, hsz7⟩ := hO4.more2 hw7
  clear hO4 hw7
  have hHlo : w.heap.size + 2 ≤ w4.heap.size := by omega
  generalize hBe : w.heap.size = B at *
  have e1 : (w4.alloc (.cells #[.int .i64 x5, .int .i64 x6, .slice none 0 0] 24)).heap.size = w4.heap.size + 1 := by simp
  rw [e1]
  generalize w4.heap.size = H at *
  have hDlo : H + 2 ≤ w7.heap.size := by omega
  clear hsz7
  gi_wp2_with fail
  simp only [List.cons_append, List.nil_append, List.set] at hO7
  have hcc7 := hO7.blk 2 rfl
  clear hc4
  refine wpIn_range2 (gf := 77) (lb := #[.pointer (some ⟨H + 1, 0, none⟩)]) rfl (enters_of Try.func77 (by kernel_rfl) rfl) ?_
  intro rc hround
  obtain ⟨hO1, -⟩ := hO7.more2 (o0 := .deferred (some [])) (o1 := .loop (rc .ready none)) rfl
  simp only [List.cons_append, List.nil_append] at hO1
  generalize hW0 : World.alloc (World.alloc w7 _) _ = W0 at *
  clear hW0
  clear hO7
  generalize w7.heap.size = D at *
  have hA0 : Cur W0 (B + 1) (.slice A bs.length c) a6 b6 := hO1.blk 4 rfl
  have hO2 : Keep [] w W0 (picL D H B (.loop (rc .ready none)) x5 x6 (.slice none 0 0)) := hO1.sub (.cons_cons _ (.cons_cons _ (.cons_cons _ (.cons_cons _ (.cons _ (List.Sublist.refl _))))))
  obtain ⟨p, hp⟩ := Int.eq_ofNat_of_zero_le hb6.1
  have hend := picN_end bs i x5 a5 b5 x6 a6 b6 p h5 h6 hp
  clear hO1
  refine (spare1_both (D + 1) (B + 1) (H + 1) p (.slice A bs.length c) bs hl
    (fun k W => ∃ sv ys, ys.length = k ∧ Keep [] w W (picL D H B (.loop (rc .ready none)) x5 x6 sv) ∧ Sl W w.heap.size 5 1 sv k (byteCells ys) ∧ sv.ownBlock ≠ some (B + 1) ∧
      sparesF bs 32 p = ((sparesF bs (32 - k) (p + 9 * k)).1, ys ++ (sparesF bs (32 - k) (p + 9 * k)).2)) a6 b6 ?hR ?hS ?hY W0 ?hP hA0 ⟨_, [], rfl, hO2, Sl.nil _ _ _ _, by simp [Value.ownBlock], by simp⟩).mono ?_
  case hR =>
    rintro k W ⟨sv, ys, _, hO, _⟩
    exact ⟨hO.blk 2 rfl, hr.cells fun p u hp => hO.only.cell hp (by simp)⟩
  case hS =>
    rintro k W W' ht ⟨sv, ys, h1, hO, h3, h4, h5⟩
    exact ⟨sv, ys, h1, hO.step1 ht (by simp; omega) (by simp; omega), h3.only ht (fun g hg => by simp; rintro rfl; exact h4 hg), h4, h5⟩
  case hP =>
    intro hb
    refine ⟨hp, ?_⟩
    exact hend.1 hb
  case hY =>
    rintro k W hlt hn1 hn9 hcur ⟨sv, ys, hyl, hO, hsl, hne, hz0⟩
    have HZ := Lib.hid hz0
    clear hz0
    refine hround _ W _ rfl (hO.at_ 0 _ _ rfl) ?_
    gi_wp2_with fail
    refine ⟨hO.at_ 0 _ _ rfl, ?_⟩
    have hOb : Keep [] w (W.putObj (D + 1) (.loop (rc .busy none))) (picL D H B (.loop (rc .busy none)) x5 x6 sv) := hO.put 0 rfl (.loop (rc .busy none))
    have hcb := hcur.putObj (l := D + 1) (by omega) (.loop (rc .busy none))
    have hsb := hsl.only ((OnlyIn.refl [D + 1] W).putObj (l := D + 1) (.inl (by simp)) (.loop (rc .busy none))) (fun g hg => by
      simp only [List.mem_singleton]
      rintro rfl
      exact hsl.ne_obj (hO.at_ 0 _ _ rfl) hg)
    generalize W.putObj (D + 1) (.loop (rc .busy none)) = Wc at hOb hcb hsb ⊢
    clear hO hcur hsl
    obtain ⟨As, cs, rfl, hcs⟩ := hsb.val
    have c2 := hOb.cell 3 2 rfl rfl
    have f2 := hOb.free 3 2 rfl
    have hx := numAt_lt bs (p + 9 * k + 1) 8
    obtain ⟨z, hz⟩ : ∃ z, UInt8.ofNat (numAt bs (p + 9 * k + 1) 8) = z := ⟨_, rfl⟩
    have hzn : ((numAt bs (p + 9 * k + 1) 8 : Nat) : Int) = (z.toNat : Int) := by rw [← hz, UInt8.toNat_ofNat_of_lt' (by simpa using hx)]
    have hbw : w.heap.size ≤ Wc.heap.size := hOb.only.size
    have hfar := hOb.far hsb (by simp)
    rw [hzn]
    gi_wp2_with (gi_at_builtin; refine wpListIn_append_sl rfl _ _ 22 rfl w.heap.size 5 i0 _ 1 1 Try.underlying22 hi0 hz0 hz1 hz2 rfl (by decide) (.slice As k cs) k _ rfl (hsb.alloc _) _ 1 (byteCells [z]) rfl (Rd.lit Wc (byteCells [z]) 5 1 rfl) (byteCells_one _) (by simp only [maxLen]; omega) (by omega) (by simp; omega) ?_; intro v' w8 hs' hg' hat'; obtain ⟨A', c', rfl, hc'⟩ := hs'.val; rw [← byteCells_append] at hs'; have ht8 : OnlyIn (Value.slice As k cs).ownBlock.toList Wc w8 := ((OnlyIn.refl _ _).alloc _).grown hg' (fun g hg => .inl (by simp [hg])); have hO8 := hOb.step1 ht8 (fun k hk => .inr (hsb.own_lt k (by simpa using hk)).1) (fun b hb hm => hfar b hb (by simpa using hm)); have c3 := hO8.cell 3 2 rfl rfl; have f3 := hO8.free 3 2 rfl)
    have hsp : sparesF bs 32 p = ((sparesF bs (31 - k) (p + 9 * (k + 1))).1, (ys ++ [z]) ++ (sparesF bs (31 - k) (p + 9 * (k + 1))).2) := by
      rw [HZ.out, show 32 - k = (31 - k) + 1 by omega, sparesF_step hn1 (by omega), hz, show p + 9 * k + 9 = p + 9 * (k + 1) by omega]
      simp
    have hO9 := hO8.set 3 2 rfl (.slice A' (k + 1) c')
    have hcb8 : Cur w8 (B + 1) (.slice A bs.length c) ((p + 9 * k + 9 : Nat) : Int) 0 := hcb.only ht8 (fun hm => hne (by simpa using hm))
    have hcb9 := (hcb8.far (p := ⟨H, 2, none⟩) (by simp; omega) (.slice A' (k + 1) c')).putObj (l := D + 1) (by omega) (.loop (rc .ready none))
    have hs9 := hs'.setCell (p := ⟨H, 2, none⟩) (hO8.far hs' (by simp) H (by simp)) (.slice A' (k + 1) c')
    have hs10 := hs9.only ((OnlyIn.refl [D + 1] _).putObj (l := D + 1) (.inl (by simp)) (.loop (rc .ready none))) (fun g hg => by
      simp only [List.mem_singleton]
      rintro rfl
      exact hs9.ne_obj (hO9.at_ 0 _ _ rfl) hg)
    refine ⟨hO9.at_ 0 _ _ rfl, rfl, by simpa using hcb9, _, ys ++ [z], by simp [hyl], hO9.put 0 rfl (.loop (rc .ready none)), by rw [← hBe]; exact hs10, hs'.ne_blk hcb8 (by decide), hsp⟩
  rintro e W2 ⟨⟨u, rfl⟩, k, a', bad', hk, hcur, ⟨sv, ys, hyl, hO, hsl, hne, hz⟩, hfin⟩
  refine ⟨⟨_, rfl⟩, .inl ⟨hO.at_ 0 _ _ rfl, ?_⟩⟩
  have hOb : Keep [] w (W2.putObj (D + 1) (.loop (rc .exhausted none))) (picL D H B (.loop (rc .exhausted none)) x5 x6 sv) := hO.put 0 rfl (.loop (rc .exhausted none))
  have hcb := hcur.putObj (l := D + 1) (by omega) (.loop (rc .exhausted none))
  have hsb := hsl.only ((OnlyIn.refl [D + 1] W2).putObj (l := D + 1) (.inl (by simp)) (.loop (rc .exhausted none))) (fun g hg => by
    simp only [List.mem_singleton]
    rintro rfl
    exact hsl.ne_obj (hO.at_ 0 _ _ rfl) hg)
  generalize W2.putObj (D + 1) (.loop (rc .exhausted none)) = Wc at hOb hcb hsb ⊢
  clear hO hcur hsl hround
  obtain ⟨As, cs, rfl, hcs⟩ := hsb.val
  have e1 := hcb.cell (i := 1) rfl
  have e2 := hcb.cell (i := 2) rfl
  have d0 := hOb.cell 3 0 rfl rfl
  have d1 := hOb.cell 3 1 rfl rfl
  have d2 := hOb.cell 3 2 rfl rfl
  have r0 := hOb.cell 4 0 rfl rfl
  have r1 := hOb.cell 4 1 rfl rfl
  have r2 := hOb.cell 4 2 rfl rfl
  have f0 := hOb.free 4 0 rfl
  have f1 := hOb.free 4 1 rfl
  have f2 := hOb.free 4 2 rfl
  have hmix := Try.mixed
  by_cases hbad : bad' = 0
  · subst hbad
    obtain ⟨X5, X6, N, hpn, hX5, hX6, hN⟩ : ∃ X5 X6 N : Nat, picN bs i = (X5, X6, ys, N, 0) ∧ x5 = (X5 : Int) ∧ x6 = (X6 : Int) ∧ a' - (i : Int) = (N : Int) := by
      rcases hfin with ⟨hb6, ⟨-, ha, hs0, -⟩ | ⟨h, -⟩⟩ | ⟨h1, h2⟩
      · rw [hs0] at hz
        exact hend.2.1 ys a' hb6 (by simpa using hz) (by rw [ha, hyl])
      · exact absurd rfl h
      · exact absurd h2.symm h1
    have HH := Lib.hid (And.intro hOb (And.intro hcb (And.intro hsb (And.intro hpn (And.intro hX5 (And.intro hX6 hN))))))
    clear hOb hcb hsb hpn hX5 hX6
    gi_wp2_with fail
    gi_region
    gi_wp2_with fail
    obtain ⟨hOb, hcb, hsb, hpn, hX5, hX6, hN⟩ := HH.out
    have hfar := hOb.far hsb (by simp) B (by simp)
    have hS := (((hOb.set 4 0 rfl (.int .i64 x5)).set 4 1 rfl (.int .i64 x6)).set 4 2 rfl (.slice As k cs)).drew
    have hs := (((hsb.setCell (p := ⟨B, 0, none⟩) hfar (.int .i64 x5)).setCell (p := ⟨B, 1, none⟩) hfar (.int .i64 x6)).setCell (p := ⟨B, 2, none⟩) hfar (.slice As k cs)).drew
    have hP := hS.put 1 rfl (.deferred none)
    have hsP := hs.only ((OnlyIn.refl [D] _).putObj (l := D) (.inl (by simp)) (.deferred none)) (fun g hg => by
      simp only [List.mem_singleton]
      rintro rfl
      obtain ⟨cur, hcc⟩ := hs.type_ _ hg
      rw [hS.at_ 1 _ _ rfl] at hcc
      cases hcc)
    refine leave_marks (D := D) rfl (hS.at_ 1 _ _ rfl) (results_cell_tmp2 rfl _ rfl (loadHead (hP.blk 4 rfl))) ⟨.slice As k cs, ?_, ?_, hP.only⟩
    · rw [hpn, hX5, hX6]
      simp only
      rw [← hN]
      rfl
    · rw [hpn]
      simp only
      rw [hyl, hBe]
      exact hBe ▸ hsP
  · have hbd : (bad' == 0) = false := by simp [hbad]
    have hpn : picN bs i = (0, 0, [], 0, bad') := by
      refine hend.2.2 bad' hbad ?_
      rcases hfin with ⟨hb6, ⟨h, -⟩ | ⟨-, h⟩⟩ | ⟨h1, h2⟩
      · exact absurd h hbad
      · exact .inl ⟨hb6, by rw [hz]; exact h⟩
      · exact .inr ⟨h1, h2⟩
    have HH := Lib.hid (And.intro hOb hpn)
    clear hOb hcb hsb hpn
    gi_wp2_with fail
    gi_region
    gi_wp2_with fail
    obtain ⟨hOb, hpn⟩ := HH.out
    have hS := (((hOb.set 4 0 rfl (.int .i64 0)).set 4 1 rfl (.int .i64 0)).set 4 2 rfl (.slice none 0 0)).drew
    have hP := hS.put 1 rfl (.deferred none)
    refine leave_marks (D := D) rfl (hS.at_ 1 _ _ rfl) (results_cell_tmp2 rfl _ rfl (loadHead (hP.blk 4 rfl))) ⟨.slice none 0 0, ?_, ?_, hP.only⟩
    · rw [hpn]; rfl
    · rw [hpn]; exact Sl.nil _ _ _ _
end Go.Proofs.Ytboipjdgccbjmaa
