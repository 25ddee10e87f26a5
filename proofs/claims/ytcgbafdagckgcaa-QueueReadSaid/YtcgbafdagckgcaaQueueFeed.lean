/-
  Package queue: Feed, Skip.
-/
import Derived.Test.YtcgbafdagckgcaaQueue
namespace Go.Mine
theorem ring_step {rs : List UInt8} {N f L : Nat} {ys : List UInt8} (hN : rs.length = N) (hL : L < N) (h : ∀ j, j < L → rs[(f + j) % N]? = ys[j]?) (y : UInt8) (hy : ys[L]? = some y) :
    ∀ j, j < L + 1 → (rs.set ((f + L) % N) y)[(f + j) % N]? = ys[j]? := by
  intro j hj
  have hm : (f + L) % N < N := Nat.mod_lt _ (by omega)
  by_cases hjl : j = L
  · subst hjl
    rw [List.getElem?_set_self (by omega), hy]
  · rw [List.getElem?_set_ne (Ne.symm (mod_ne_of_lt (by omega) (by omega)))]
    exact h j (by omega)
theorem ring_drop {rs xs : List UInt8} {N f d : Nat} (hN : 0 < N) (h : ∀ j, j < xs.length → rs[(f + j) % N]? = xs[j]?) : ∀ j, j < (xs.drop d).length → rs[((f + d) % N + j) % N]? = (xs.drop d)[j]? := by
  intro j hj
  rw [List.length_drop] at hj
  rw [Nat.mod_add_mod, Nat.add_assoc, h (d + j) (by omega), List.getElem?_drop]
end Go.Mine
namespace Go.Proofs.Ytcgbafdagckgcaa
open Go.RowKit Go.Mine

set_option maxRecDepth 100000 in
theorem qFeed_over (w : World) {b r N f p came gone : Nat} {xs : List UInt8} (h : Qu w b r N f xs p came gone true) (v : Value) : Calls Try.prog 35 #[.pointer (some ⟨b, 0, none⟩), v] w fun e w' => e = .returned (.tuple #[.int .i64 0, .int .i64 20]) ∧ w = w' := by
  have c0 := h.blk.cell (i := 0) rfl
  have c1 := h.blk.cell (i := 5) rfl
  obtain ⟨g1, g2⟩ := And.intro h.pos h.le
  clear h
  go_enter Try.func35, Try.ntmps35
  go_wp2_with (go_at_call 61; refine (qnone_no _ b N (cs := []) c0 g1 g2).mono ?_; rintro e w' ⟨rfl, rfl⟩)
  go_ret2
  exact ⟨rfl, rfl⟩

/-- What the loop of Feed keeps. -/
def feedAt (w0 : World) (r N f L n : Nat) (ys : List UInt8) (i : Value) (wr : World) : Prop :=
  ∃ k : Nat, k ≤ n ∧ i = .int .i64 (k : Int) ∧ OnlyIn [r] w0 wr ∧ ∃ rs : List UInt8, rs.length = N ∧ Blk wr r 5 (byteCells rs) ∧ ∀ j, j < L + k → rs[(f + j) % N]? = ys[j]?

set_option maxRecDepth 100000 in
set_option maxHeartbeats 1000000 in
theorem qFeed_ok (w : World) {b r N f p came gone : Nat} {xs : List UInt8} (h : Qu w b r N f xs p came gone false) (v : Value) (bs : List UInt8) (hr : Rd w 1 v bs.length (byteCells bs)) (hne : 0 < bs.length → v.ownBlock ≠ some r) (hl : bs.length ≤ 1000000) (hcm : came ≤ 100000000) :
    Calls Try.prog 35 #[.pointer (some ⟨b, 0, none⟩), v] w fun e w' => e = .returned (.tuple #[.int .i64 ((min bs.length (N - xs.length) : Nat) : Int), .int .i64 0]) ∧
      Qu w' b r N f (xs ++ bs.take (N - xs.length)) p (came + min bs.length (N - xs.length)) gone false ∧ OnlyIn [b, r] w w' := by
  have c0 := h.blk.cell (i := 0) rfl
  have c1 := h.blk.cell (i := 1) rfl
  have c5 := h.blk.cell (i := 5) rfl
  obtain ⟨g1, g2, g3, g4, g5, g6, g7, g8⟩ := And.intro h.pos (And.intro h.le (And.intro h.len (And.intro h.fst (And.intro h.pl (And.intro h.pl2 (And.intro h.small h.small2))))))
  obtain ⟨rs, hrl, hrb, hrg⟩ := h.ring
  have hbr := h.ne_
  have hbk := h.blk
  have H := Lib.hid h
  clear h
  obtain ⟨-, A, c, rfl, hc, hA⟩ := hr
  have HA := Lib.hid hA
  clear hA
  generalize hn : min bs.length (N - xs.length) = n at *
  have hn1 : n ≤ bs.length := by omega
  have hn2 : xs.length + n ≤ N := by omega
  have hmn : (min (bs.length : Int) ((N : Int) - (xs.length : Int))) = (n : Int) := by omega
  have hmn2 : (if ((N : Int) - (xs.length : Int)) < (bs.length : Int) then ((N : Int) - (xs.length : Int)) else (bs.length : Int)) = (n : Int) := by split <;> omega
  have HN := Lib.hid hn
  clear hn
  go_enter Try.func35, Try.ntmps35
  go_wp2_with (first | (go_at_call 61; refine (qnone_no _ b N (cs := []) c0 g1 g2).mono ?_; rintro e w' ⟨rfl, rfl⟩) | (go_at_call 62; refine (qfree_any _ _ _ (by omega) (by omega) (by omega) (by omega)).mono ?_; rintro e w1 ⟨rfl, ht⟩))
  have c0 : w1.cell? ⟨b, 0, none⟩ = _ := (hbk.only ht (by simp)).cell (i := 0) rfl
  go_loopw [25] (feedAt w1 r N f xs.length n (xs ++ bs)) (fun i _ => n - (intOf i).toNat)
  case atStart => exact ⟨0, by omega, rfl, OnlyIn.refl _ _, rs, hrl, hrb.only ht (by simp), fun j hj => by rw [hrg j (by omega), List.getElem?_append_left (by omega)]⟩
  case round =>
    obtain ⟨k, hk, rfl, hto, rs', hrl', hrb', hrg'⟩ := hrel
    have hbk' : Blk wr b 84 _ := (hbk.only ht (by simp)).only hto (by simpa using hbr)
    have c0' := hbk'.cell (i := 0) rfl
    have c1' := hbk'.cell (i := 1) rfl
    have c2' := hbk'.cell (i := 2) rfl
    have c3' := hbk'.cell (i := 3) rfl
    by_cases hlt : k < n
    · obtain ⟨g, off, rfl, hg⟩ := HA.out (by omega)
      have hkb : k < bs.length := by omega
      have q0 : wr.cell? ⟨g, off + k, none⟩ = some (.int .u8 ((bs[k]'hkb).toNat : Int)) := hto.cell (ht.cell (hg k _ (by simp [byteCells, List.getElem?_eq_getElem hkb])) (by simp)) (by simpa [Value.ownBlock] using hne (by omega))
      obtain ⟨x, hx⟩ : ∃ x : Nat, (f + (xs.length + k)) % N = x := ⟨_, rfl⟩
      have hm : x < N := by rw [← hx]; exact Nat.mod_lt _ g1
      have hmi : ((f : Int) + (xs.length : Int) + (k : Int)) % (N : Int) = (x : Int) := by rw [← hx]; push_cast; rw [Int.add_assoc]
      have hd0 : wr.cell? ⟨r, x, none⟩ = some _ := hrb'.cell (byteCells_get (by omega))
      have hf0 := hrb'.free x
      have hw1 : IntKind.i64.wrap ((f : Int) + (xs.length : Int)) = (f : Int) + (xs.length : Int) := by rw [IntKind.wrap_i64]; omega
      have hw2 : IntKind.i64.wrap ((f : Int) + (xs.length : Int) + (k : Int)) = (f : Int) + (xs.length : Int) + (k : Int) := by rw [IntKind.wrap_i64]; omega
      have hz1 : ¬ (N : Int) = 0 := by omega
      have hz2 : ¬ N = 0 := by omega
      have hz3 : ((N : Int) == 0) = false := by simp; omega
      have hw3 : (0 : Int) ≤ (f : Int) + (xs.length : Int) + (k : Int) := by omega
      have hw4 : ((f : Int) + (xs.length : Int) + (k : Int)).tmod (N : Int) = (x : Int) := by rw [Int.tmod_eq_emod_of_nonneg hw3]; exact hmi
      have HX := Lib.hid hx
      clear hx
      go_wp2_with fail
      (refine Go.Mine.wp_region_tail 27 (by kernel_rfl) (by kernel_rfl) ?_; simp only [List.take_succ_cons, List.take_zero, List.drop_succ_cons, List.drop_zero]; (repeat (refine Go.wpStill_step (fun K hK => ?_); go_simp; first | (refine hK _ ?_; clear hK K) | (apply Exists.intro; refine ⟨?_, hK _ ?_⟩; (fail); clear hK K))); refine Go.wpStill_nil ?_)
      go_wp2_with fail
      go_roundw
      case rel =>
        refine ⟨k + 1, by omega, by go_num, ?_, rs'.set x (bs[k]'hkb), by simpa using hrl', ?_, ?_⟩
        · exact (hto.setCell (p := ⟨r, x, none⟩) (.inl (by simp)) _).drew
        · rw [byteCells_set]
          exact hrb'.set x _
        · have := ring_step (ys := xs ++ bs) hrl' (by omega : xs.length + k < N) hrg' (bs[k]'hkb) (by rw [List.getElem?_append_right (by omega), show xs.length + k - xs.length = k by omega, List.getElem?_eq_getElem hkb])
          rw [HX.out] at this
          exact this
      case measure => simp [intOf]; omega
    · obtain rfl : k = n := by omega
      have c6' := hbk'.cell (i := 6) rfl
      have f1' := hbk'.free 1
      have f6' := hbk'.free 6
      go_wp2_with fail
      go_ret2
      have hlen : (xs ++ bs.take (N - xs.length)).length = xs.length + k := by
        have := HN.out
        simp
        omega
      refine ⟨rfl, ⟨g1, g2, by omega, g4, g5, by omega, by omega, g8, ?_, rs', hrl', ?_, ?_⟩, ?_⟩
      · rw [hlen]
        exact (hbk'.set 1 _).set 6 _
      · exact (hrb'.far (p := ⟨b, 1, none⟩) (by simpa using hbr.symm) _).far (p := ⟨b, 6, none⟩) (by simpa using hbr.symm) _
      · intro j hj
        rw [hrg' j (by omega)]
        rcases Nat.lt_or_ge j xs.length with h1 | h1
        · rw [List.getElem?_append_left h1, List.getElem?_append_left h1]
        · rw [List.getElem?_append_right h1, List.getElem?_append_right h1, List.getElem?_take, if_pos (by omega)]
      · exact (((OnlyIn.mono (ht.mono (S' := [b, r]) (by simp)) (fun _ _ h => h)).then hto (fun j hj => .inl (by simp at hj ⊢; omega))).setCell (p := ⟨b, 1, none⟩) (.inl (by simp)) _).setCell (p := ⟨b, 6, none⟩) (.inl (by simp)) _

set_option maxRecDepth 100000 in
theorem qSkip_bad (w : World) {b r N f p came gone : Nat} {xs : List UInt8} {over : Bool} (h : Qu w b r N f xs p came gone over) (n : Int) (hn : n < 0 ∨ 8 * (xs.length : Int) - (p : Int) < n) :
    Calls Try.prog 37 #[.pointer (some ⟨b, 0, none⟩), .int .i64 n] w fun e w' => e = .returned (.int .i64 3) ∧ OnlyIn [] w w' := by
  have c0 := h.blk.cell (i := 0) rfl
  obtain ⟨g1, g2⟩ := And.intro h.pos h.le
  by_cases h1 : n < 0
  · clear h
    go_enter Try.func37, Try.ntmps37
    go_wp2_with (go_at_call 61; refine (qnone_no _ b N (cs := []) c0 g1 g2).mono ?_; rintro e w' ⟨rfl, rfl⟩)
    go_ret
    exact ⟨rfl, .refl _ _⟩
  · have h2 : 8 * (xs.length : Int) - (p : Int) < n := by omega
    go_enter Try.func37, Try.ntmps37
    go_wp2_with (first | (go_at_call 61; refine (qnone_no _ b N (cs := []) c0 g1 g2).mono ?_; rintro e w' ⟨rfl, rfl⟩) | (go_at_call 36; refine (qLeft_any w h).mono ?_; rintro e w' ⟨rfl, k, rfl⟩))
    go_ret
    exact ⟨rfl, (OnlyIn.refl _ _).drewN k⟩

set_option maxRecDepth 100000 in
set_option maxHeartbeats 1000000 in
theorem qSkip_ok (w : World) {b r N f p came gone : Nat} {xs : List UInt8} {over : Bool} (h : Qu w b r N f xs p came gone over) (n : Nat) (hn : p + n ≤ 8 * xs.length) (hg : gone ≤ 1000000000) :
    Calls Try.prog 37 #[.pointer (some ⟨b, 0, none⟩), .int .i64 (n : Int)] w fun e w' => e = .returned (.int .i64 0) ∧
      Qu w' b r N ((f + (p + n) / 8) % N) (xs.drop ((p + n) / 8)) ((p + n) % 8) came (gone + n) over ∧ OnlyIn [b] w w' := by
  have c0 := h.blk.cell (i := 0) rfl
  have c1 := h.blk.cell (i := 1) rfl
  have c3 := h.blk.cell (i := 3) rfl
  have c4 := h.blk.cell (i := 4) rfl
  have c7 := h.blk.cell (i := 7) rfl
  have e1 := h.blk.free 1
  have e3 := h.blk.free 3
  have e4 := h.blk.free 4
  have e7 := h.blk.free 7
  obtain ⟨g1, g2, g3, g4, g5, g6, g7, g8⟩ := And.intro h.pos (And.intro h.le (And.intro h.len (And.intro h.fst (And.intro h.pl (And.intro h.pl2 (And.intro h.small h.small2))))))
  have H := Lib.hid h
  have d1 : ¬ (n : Int) < 0 := by omega
  have d2 : ¬ 8 * (xs.length : Int) - (p : Int) < (n : Int) := by omega
  go_enter Try.func37, Try.ntmps37
  go_wp2_with (first | (go_at_call 61; refine (qnone_no _ b N (cs := []) c0 g1 g2).mono ?_; rintro e w' ⟨rfl, rfl⟩) | (go_at_call 36; refine (qLeft_any w h).mono ?_; rintro e w' ⟨rfl, k, rfl⟩))
  have hw1 : IntKind.i64.wrap ((f : Int) + ((p : Int) + (n : Int)) / 8) = (f : Int) + ((p : Int) + (n : Int)) / 8 := by rw [IntKind.wrap_i64]; omega
  have hz1 : ¬ (N : Int) = 0 := by omega
  have hz2 : ¬ N = 0 := by omega
  have hz3 : ((N : Int) == 0) = false := by simp; omega
  have hw3 : (0 : Int) ≤ (f : Int) + ((p : Int) + (n : Int)) / 8 := by omega
  have hw4 : ((f : Int) + ((p : Int) + (n : Int)) / 8).tmod (N : Int) = (((f + (p + n) / 8) % N : Nat) : Int) := by rw [Int.tmod_eq_emod_of_nonneg hw3]; push_cast; rfl
  (refine Go.Mine.wp_region_tail 15 (by kernel_rfl) (by kernel_rfl) ?_; simp only [List.take_succ_cons, List.take_zero, List.drop_succ_cons, List.drop_zero]; (repeat (refine Go.wpStill_step (fun K hK => ?_); go_simp; first | (refine hK _ ?_; clear hK K) | (apply Exists.intro; refine ⟨?_, hK _ ?_⟩; (fail); clear hK K))); refine Go.wpStill_nil ?_)
  go_wp2_with fail
  go_ret
  obtain ⟨rs, hrl, hrb, hrg⟩ := H.out.ring
  have hbr := H.out.ne_
  refine ⟨rfl, ⟨g1, g2, by rw [List.length_drop]; omega, Nat.mod_lt _ g1, Nat.mod_lt _ (by omega), by rw [List.length_drop]; omega, g7, by omega, ?_, rs, hrl, ?_, ring_drop g1 hrg⟩, ?_⟩
  · have e : ((xs.drop ((p + n) / 8)).length : Int) = (xs.length : Int) - ((p : Int) + (n : Int)) / 8 := by rw [List.length_drop]; omega
    rw [e]
    have := (((((H.out.blk.drewN k).set 4 (.int .i64 (((p + n) % 8 : Nat) : Int))).set 3 (.int .i64 (((f + (p + n) / 8) % N : Nat) : Int))).set 1 (.int .i64 ((xs.length : Int) - ((p : Int) + (n : Int)) / 8))).set 7 (.int .i64 ((gone + n : Nat) : Int))).drew
    simpa using this
  · exact (((((hrb.drewN k).far (p := ⟨b, 4, none⟩) (by simpa using hbr.symm) _).far (p := ⟨b, 3, none⟩) (by simpa using hbr.symm) _).far (p := ⟨b, 1, none⟩) (by simpa using hbr.symm) _).far (p := ⟨b, 7, none⟩) (by simpa using hbr.symm) _).drew
  · exact (((((OnlyIn.refl [b] w).drewN k).setCell (p := ⟨b, 4, none⟩) (.inl (by simp)) _).setCell (p := ⟨b, 3, none⟩) (.inl (by simp)) _).setCell (p := ⟨b, 1, none⟩) (.inl (by simp)) _).setCell (p := ⟨b, 7, none⟩) (.inl (by simp)) _ |>.drew
end Go.Proofs.Ytcgbafdagckgcaa
