/-
  Spare bytes as texts, and a header's text.
-/
import Derived.Test.YtboipjdgccbjmaaText
namespace Go.Mine
open Go.RowKit
def spareOne (b : UInt8) : List Nat := 1 :: bitsOf b.toNat 8
/-- Spare bytes: each behind a one, and a nought at the end. -/
def spareBits (s : List UInt8) : List Nat := s.flatMap spareOne ++ [0]
theorem spares_take {s : List UInt8} {k : Nat} (hk : k < s.length) : (s.take (k + 1)).flatMap spareOne = (s.take k).flatMap spareOne ++ spareOne (s[k]'hk) := by
  rw [List.take_succ_eq_append_getElem hk, List.flatMap_append]; simp
theorem flat9 (s : List UInt8) : (s.flatMap spareOne).length = 9 * s.length := by
  induction s with
  | nil => rfl
  | cons a s ih => rw [List.flatMap_cons, List.length_append, ih, List.length_cons, spareOne, List.length_cons, bitsOf_length]; omega
theorem spareBits_length (s : List UInt8) : (spareBits s).length = 9 * s.length + 1 := by rw [spareBits, List.length_append, flat9]; rfl
theorem Rd.atB {w : World} {v : Value} {bs : List UInt8} {k : Nat} (h : Rd w 1 v bs.length (byteCells bs)) (hk : k < bs.length) : ∃ g off c, v = .slice (some ⟨g, off, none⟩) bs.length c ∧ w.cell? ⟨g, off + k, none⟩ = some (.int .u8 ((bs[k]'hk).toNat : Int)) := by
  obtain ⟨-, A, c, rfl, hc, hA⟩ := h
  obtain ⟨g, off, rfl, hg⟩ := hA (by omega)
  exact ⟨g, off, c, rfl, hg k _ (byteCells_get hk)⟩
theorem bitsOf_zero1 : bitsOf 0 1 = [0] := rfl
theorem bitsOf_one1 : bitsOf 1 1 = [1] := rfl
end Go.Mine
namespace Go.Proofs.Ytboipjdgccbjmaa
open Go.RowKit Go.Mine

set_option maxRecDepth 100000 in
/-- 'Spare(b)'. -/
theorem rspare_any (w : World) (v : Value) (bs : List UInt8) (hr : Rd w 1 v bs.length (byteCells bs)) (hl : bs.length ≤ 1000) :
    Calls Try.prog 54 #[v] w fun e w' => e = .returned (.string (str (txt (spareBits bs)))) ∧ OnlyIn [] w w' := by
  have hr' := hr
  obtain ⟨-, A, c, rfl, hc, hA⟩ := hr'
  clear hA
  have HR := Lib.hid hr
  clear hr
  go_enter Try.func54, Try.ntmps54
  go_wp2_with fail
  go_loopw [3, 4] (fun t i wr => ∃ k : Nat, k ≤ bs.length ∧ i = .int .i64 (k : Int) ∧ t = .string (str (txt ((bs.take k).flatMap spareOne))) ∧ OnlyIn [] w wr) (fun _ i _ => bs.length - (intOf i).toNat)
  case atStart => exact ⟨0, by omega, rfl, by simp [txt, str], OnlyIn.refl _ _⟩
  case round =>
    obtain ⟨k, hk, rfl, rfl, hto⟩ := hrel
    by_cases hlt : k < bs.length
    · obtain ⟨g, off, cap, hv, q0⟩ := Rd.atB HR.out hlt
      injection hv with hv _ hcc
      subst hv hcc
      have q1 := hto.cell q0 (by simp)
      have hst := spares_take hlt
      obtain ⟨x, hx⟩ : ∃ x, bs[k]'hlt = x := ⟨_, rfl⟩
      obtain ⟨q, hq⟩ : ∃ q, txt ((bs.take k).flatMap spareOne) = q := ⟨_, rfl⟩
      have hql : q.length ≤ 10000 := by rw [← hq, txt_length, flat9, List.length_take]; omega
      have hx8 : x.toNat < 256 := UInt8.toNat_lt x
      rw [hx] at q1
      obtain ⟨n8, hn8⟩ : ∃ n8, x.toNat = n8 := ⟨_, rfl⟩
      rw [hn8] at q1 hx8
      have hq2 : txt ((bs.take (k + 1)).flatMap spareOne) = (q ++ [49]) ++ txt (bitsOf n8 8) := by rw [hst, hx, txt_append, hq, List.append_assoc]; rw [← hn8]; rfl
      have h2 := fun w => rdigits_any w n8 8 (by omega) (by omega)
      have ha := fun w => run_add_str (P := Try.prog) w q [49] (by simp; omega)
      have hb := fun w => run_add_str (P := Try.prog) w (q ++ [49]) (txt (bitsOf n8 8)) (by rw [txt_length, bitsOf_length]; simp; omega)
      have ha' : ∀ w, (Op.stringOp .add (str q) ⟨#[49]⟩).run Try.prog w = .ok (.string (str (q ++ [49]))) w := ha
      rw [hq]
      have hmeas : bs.length - (k + 1) < bs.length - k := by omega
      have hw1 : IntKind.i64.wrap (n8 : Int) = (n8 : Int) := by rw [IntKind.wrap_i64]; omega
      obtain ⟨r, hr⟩ : ∃ r, q ++ [49] = r := ⟨_, rfl⟩
      rw [hr] at hq2 hb ha'
      obtain ⟨r2, hr2⟩ : ∃ r2, r ++ txt (bitsOf n8 8) = r2 := ⟨_, rfl⟩
      rw [hr2] at hb hq2
      clear hr hr2
      have HQ := Lib.hid (And.intro hq2 (And.intro hlt hto))
      clear hst hq hq2 hx hn8 ha q0 hto
      go_wp2_with (go_at_call 53; refine (h2 _).mono ?_; rintro e w1 ⟨rfl, ht1⟩)
      go_roundw
      case rel =>
        obtain ⟨hq2, hlt, hto⟩ := HQ.out
        exact ⟨k + 1, by omega, by go_num, by rw [hq2], hto.trans ht1⟩
      case measure => simp [intOf]; exact hmeas
    · obtain rfl : k = bs.length := by omega
      rw [List.take_of_length_le (Nat.le_refl _)]
      obtain ⟨q, hq⟩ : ∃ q, txt (bs.flatMap spareOne) = q := ⟨_, rfl⟩
      have hql : q.length ≤ 10000 := by rw [← hq, txt_length, flat9]; omega
      have ha : ∀ w, (Op.stringOp .add (str q) ⟨#[48]⟩).run Try.prog w = .ok (.string (str (q ++ [48]))) w := fun w => run_add_str (P := Try.prog) w q [48] (by simp; omega)
      have HQ := Lib.hid (And.intro hq hto)
      rw [hq]
      clear hq hto
      go_wp2_with fail
      go_ret
      refine ⟨?_, HQ.out.2⟩
      rw [← HQ.out.1, spareBits, txt_append]
      rfl
end Go.Proofs.Ytboipjdgccbjmaa
