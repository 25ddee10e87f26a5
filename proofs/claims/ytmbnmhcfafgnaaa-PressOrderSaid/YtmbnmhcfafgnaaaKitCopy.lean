/-
  Package praxinoscopekit: CopyInts, SameInts, OverInts.
-/
import Derived.Test.YtmbnmhcfafgnaaaTxts
namespace Go.Proofs.Ytmbnmhcfafgnaaa
open Go.RowKit Go.Mine

set_option maxRecDepth 100000 in
theorem Try.infoIC : (Try.prog.info? 3).map (fun i => (i.zero, i.size, i.bytes)) = some (some (.int .i64 0), 1, 8) := by kernel_rfl

set_option maxRecDepth 100000 in
theorem SameInts_any (w : World) (v u : Value) (a b : List Int) (h1 : Rd w 1 v a.length (intCells a)) (h2 : Rd w 1 u b.length (intCells b)) (hl : a.length ≤ 1000000000) (hl2 : b.length ≤ 1000000000) :
    Calls Try.prog 18 #[v, u] w fun e w' => e = .returned (.bool (decide (a = b))) ∧ OnlyIn [] w w' := by
  obtain ⟨-, A, c, rfl, hc, hA⟩ := h1
  obtain ⟨-, B, d, rfl, hd, hB⟩ := h2
  obtain ⟨N, hN⟩ : ∃ N, a.length = N := ⟨_, rfl⟩
  obtain ⟨M, hM⟩ : ∃ M, b.length = M := ⟨_, rfl⟩
  rw [hN] at hc hA hl ⊢
  rw [hM] at hd hB hl2 ⊢
  obtain ⟨r, hr⟩ : ∃ r, decide (a = b) = r := ⟨_, rfl⟩
  rw [hr]
  by_cases hne : N = M
  · subst hne
    have hcell : ∀ k (h : k < N), ∃ g off g' off', A = some ⟨g, off, none⟩ ∧ B = some ⟨g', off', none⟩ ∧ w.cell? ⟨g, off + k, none⟩ = some (.int .i64 (a[k]'(by rw [hN]; exact h))) ∧ w.cell? ⟨g', off' + k, none⟩ = some (.int .i64 (b[k]'(by rw [hM]; exact h))) := by
      intro k h
      obtain ⟨g, off, e1, e2⟩ := hA (by omega)
      obtain ⟨g', off', e3, e4⟩ := hB (by omega)
      exact ⟨g, off, g', off', e1, e3, e2 k _ (intCells_get _), e4 k _ (intCells_get _)⟩
    have HC := Lib.hid hcell
    have HL := Lib.hid (And.intro hN (And.intro hM hr))
    clear hA hB hcell hr
    go_enter Try.func18, Try.ntmps18
    go_wp2_with fail
    go_loopw [5] (fun i wr => ∃ k : Nat, k ≤ N ∧ i = .int .i64 (k : Int) ∧ Hid (a.take k = b.take k) ∧ OnlyIn [] w wr) (fun i _ => N - (intOf i).toNat)
    case atStart => exact ⟨0, by omega, rfl, Lib.hid rfl, OnlyIn.refl _ _⟩
    case round =>
      obtain ⟨k, hk, rfl, HZ, hto⟩ := hrel
      by_cases hlt : k < N
      · obtain ⟨g, off, g', off', rfl, rfl, c1, c2⟩ := HC.out k hlt
        have d1 := hto.cell c1 (by simp)
        have d2 := hto.cell c2 (by simp)
        have hka : k < a.length := by rw [HL.out.1]; exact hlt
        have hkb : k < b.length := by rw [HL.out.2.1]; exact hlt
        obtain ⟨x, hx⟩ : ∃ x, a[k]'hka = x := ⟨_, rfl⟩
        obtain ⟨y, hy⟩ : ∃ y, b[k]'hkb = y := ⟨_, rfl⟩
        rw [hx] at d1
        rw [hy] at d2
        by_cases hxy : x = y
        · subst hxy
          have HZ2 : Hid (a.take (k + 1) = b.take (k + 1)) := Lib.hid (by rw [List.take_add_one, List.take_add_one, HZ.out, List.getElem?_eq_getElem hka, List.getElem?_eq_getElem hkb, hx, hy])
          have HT := Lib.hid hto
          have hbn : (x != x) = false := by simp
          have hmix := Try.mixed
          clear hx hy c1 c2 HZ hto
          go_wp2_with fail
          (refine Go.Mine.wp_region_inv (Go.Mine.OnlyIn [] _) (by kernel_rfl) (by kernel_rfl) ((Go.Mine.OnlyIn.refl _ _).drew) ?_; (repeat (first | (refine Go.Mine.wpInv_run _ (by first | rfl | go_simp) (fun W hW => by (have e1 := hW.cell d1 (by simp); have e2 := hW.cell d2 (by simp); go_simp; first | exact ⟨rfl, hW⟩ | exact rfl)) ?_; go_simp) | (refine Go.Mine.wpInv_skip (by first | rfl | go_simp) ?_; go_simp))); refine Go.Mine.wpInv_nil ?_; intro W hW; have e1 := hW.cell d1 (by simp); have e2 := hW.cell d2 (by simp))
          go_wp2_with fail
          go_roundw
          case rel => exact ⟨k + 1, by omega, by go_num, HZ2, HT.out.then hW (by simp)⟩
          case measure => simp [intOf]; omega
        · have hbn : (x != y) = true := by simpa using hxy
          have hres : r = false := by
            rw [← HL.out.2.2]
            simp
            rintro rfl
            exact hxy (by rw [← hx, ← hy])
          have HT := Lib.hid (And.intro hto hres)
          have hmix := Try.mixed
          clear hx hy c1 c2 HZ hto hres hxy
          go_wp2_with fail
          (refine Go.Mine.wp_region_inv (Go.Mine.OnlyIn [] _) (by kernel_rfl) (by kernel_rfl) ((Go.Mine.OnlyIn.refl _ _).drew) ?_; (repeat (first | (refine Go.Mine.wpInv_run _ (by first | rfl | go_simp) (fun W hW => by (have e1 := hW.cell d1 (by simp); have e2 := hW.cell d2 (by simp); go_simp; first | exact ⟨rfl, hW⟩ | exact rfl)) ?_; go_simp) | (refine Go.Mine.wpInv_skip (by first | rfl | go_simp) ?_; go_simp))); refine Go.Mine.wpInv_nil ?_; intro W hW; have e1 := hW.cell d1 (by simp); have e2 := hW.cell d2 (by simp))
          go_wp2_with fail
          go_ret
          exact ⟨by rw [HT.out.2]; rfl, HT.out.1.then hW (by simp)⟩
      · obtain rfl : k = N := by omega
        have hres : r = true := by
          obtain ⟨e1, e2, e3⟩ := HL.out
          rw [← e3]
          have := HZ.out
          rw [List.take_of_length_le (by omega), List.take_of_length_le (by omega)] at this
          simp [this]
        have HT := Lib.hid (And.intro hto hres)
        clear HZ hto hres
        go_wp2_with fail
        go_ret
        exact ⟨by rw [HT.out.2]; rfl, HT.out.1⟩
  · have hz2 : ((N : Int) != (M : Int)) = true := by simp; omega
    have hres : r = false := by
      rw [← hr]
      simp
      rintro rfl
      exact hne (by rw [← hN, hM])
    have HR := Lib.hid hres
    clear hA hB hres
    go_enter Try.func18, Try.ntmps18
    go_wp2_with fail
    go_ret
    exact ⟨by rw [HR.out]; rfl, OnlyIn.refl _ _⟩

set_option maxRecDepth 100000 in
/-- Writing over: what is there then is told nowhere. -/
theorem OverInts_any (w : World) (v : Value) (n : Nat) (xs : List Value) (base : Nat) (hs : Sl w base 3 1 v n xs) (hn : n ≤ 1000000000) :
    Calls Try.prog 23 #[v] w fun e w' => e = .returned (.tuple #[]) ∧ OnlyIn v.ownBlock.toList w w' := by
  obtain ⟨A, c, rfl, hc⟩ := hs.val
  go_enter Try.func23, Try.ntmps23
  go_wp2_with fail
  go_loopw [2] (fun i wr => ∃ (k : Nat) (ys : List Value), k ≤ n ∧ i = .int .i64 (k : Int) ∧ Sl wr base 3 1 (.slice A n c) n ys ∧ OnlyIn (Value.slice A n c).ownBlock.toList w wr) (fun i _ => n - (intOf i).toNat)
  case atStart => exact ⟨0, xs, by omega, rfl, hs, OnlyIn.refl _ _⟩
  case round =>
    obtain ⟨k, ys, hk, rfl, hsr, hto⟩ := hrel
    by_cases hlt : k < n
    · obtain ⟨g, off, cap, hv, hg1, hg2, hg3⟩ := hsr.form (by omega)
      injection hv with hA _ hcc
      subst hA hcc
      have hyl : ys.length = n := by simpa using hsr.1
      have q0 : wr.cell? ⟨g, off + k, none⟩ = some (ys[k]'(by omega)) := hsr.cell_at rfl (List.getElem?_eq_getElem (by omega))
      have f0 : wr.frozen? ⟨g, off + k, none⟩ = false := hsr.free_at rfl _
      go_wp2_with fail
      go_roundw
      case rel => exact ⟨k + 1, _, by omega, by go_num, hsr.stored rfl k _, hto.setCell (p := ⟨g, off + k, none⟩) (.inl (by simp [Value.ownBlock])) _⟩
      case measure => simp [intOf]; omega
    · go_wp2_with fail
      go_end0
      exact ⟨rfl, hto⟩
end Go.Proofs.Ytmbnmhcfafgnaaa
