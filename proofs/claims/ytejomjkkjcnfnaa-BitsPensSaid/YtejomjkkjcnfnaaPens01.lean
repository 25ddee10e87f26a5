/-
  Law 01: BitsPens.
-/
import Derived.Test.YtejomjkkjcnfnaaBack01
import Derived.Test.YtejomjkkjcnfnaaRefBytes01
import Derived.Test.YtejomjkkjcnfnaaPenR
namespace Go.Proofs.Ytejomjkkjcnfnaa
open Go.RowKit Go.Mine

/-- Both pens wrote the same. -/
structure Both01 (w0 w : World) (b c : Nat) (v u : Value) (l : List Nat) : Prop where
  pen : PenAt w (b + 1) b v l
  ref : RPen w (c + 1) c u l
  on : OnlyIn [] w0 w
  hb : w0.heap.size ≤ b
  hc : w0.heap.size ≤ c
section
variable {w0 w w' : World} {b c : Nat} {v u v' u' : Value} {l l' : List Nat}
theorem Both01.only0 (h : Both01 w0 w b c v u l) (ht : OnlyIn [] w w') : Both01 w0 w' b c v u l := ⟨h.pen.only0 ht, h.ref.only ht (by simp) (by simp), h.on.trans ht, h.hb, h.hc⟩
theorem Both01.bc (h : Both01 w0 w b c v u l) : b ≠ c := h.pen.blk.ne_ h.ref.blk (by decide)
/-- The pen wrote, then the reference. -/
theorem Both01.write {w1 : World} (h : Both01 w0 w b c v u l) (hP : PenAt w1 (b + 1) b v' l') (ht : OnlyIn (b :: v.ownBlock.toList) w w1) : RPen w1 (c + 1) c u l ∧ OnlyIn [] w0 w1 := by
  refine ⟨h.ref.only ht ?_ ?_, h.on.then ht ?_⟩
  · simp only [List.mem_cons, Option.mem_toList]
    rintro (h1 | h1)
    · exact h.bc h1.symm
    · exact h.pen.sl.ne_blk h.ref.blk (by decide) h1
  · intro g hg
    simp only [List.mem_cons, Option.mem_toList]
    rintro (h1 | h1)
    · exact h.ref.sl.ne_blk h.pen.blk (by decide) (by rw [hg, h1])
    · exact h.ref.sl.ne_sl h.pen.sl (by decide) g hg h1
  · intro j hj
    simp only [List.mem_cons, Option.mem_toList] at hj
    have := h.hb
    rcases hj with hj | hj
    · exact .inr (by omega)
    · have := (h.pen.sl.own_lt j hj).1
      exact .inr (by omega)
theorem Both01.both {w1 w2 : World} (h : Both01 w0 w b c v u l) (hP : PenAt w1 (b + 1) b v' l') (ht : OnlyIn (b :: v.ownBlock.toList) w w1) (hR : RPen w2 (c + 1) c u' l') (ht2 : OnlyIn (c :: u.ownBlock.toList) w1 w2) : Both01 w0 w2 b c v' u' l' := by
  obtain ⟨k1, k2⟩ := h.write hP ht
  have hbc := hP.blk.ne_ k1.blk (by decide)
  refine ⟨hP.only ht2 ?_ ?_, hR, k2.then ht2 ?_, h.hb, h.hc⟩
  · simp only [List.mem_cons, Option.mem_toList]
    rintro (h1 | h1)
    · exact hbc h1
    · exact k1.sl.ne_blk hP.blk (by decide) h1
  · intro g hg
    simp only [List.mem_cons, Option.mem_toList]
    rintro (h1 | h1)
    · exact hP.sl.ne_blk k1.blk (by decide) (by rw [hg, h1])
    · exact hP.sl.ne_sl k1.sl (by decide) g hg h1
  · intro j hj
    simp only [List.mem_cons, Option.mem_toList] at hj
    have := h.hc
    rcases hj with hj | hj
    · exact .inr (by omega)
    · have := (k1.sl.own_lt j hj).1
      exact .inr (by omega)
end

set_option maxRecDepth 100000 in
/-- The same act is answered alike. -/
theorem Put_both {w0 w : World} {b c : Nat} {v u : Value} {l : List Nat} (h : Both01 w0 w b c v u l) (n k : Nat) (hk : k ≤ 32) (hn : n < 2 ^ k) (hl : l.length + k ≤ 16777216) :
    Calls Try.prog 17 #[.pointer (some ⟨b, 0, none⟩), .int .i64 (n : Int), .int .i64 (k : Int)] w fun e w1 => e = .returned (.int .i64 0) ∧ OnlyIn [] w0 w1 ∧
      Calls Try.prog 23 #[.pointer (some ⟨c, 0, none⟩), .int .i64 (n : Int), .int .i64 (k : Int)] w1 fun e w2 => e = .returned (.int .i64 0) ∧ ∃ v' u', Both01 w0 w2 b c v' u' (l ++ bitsOf n k) := by
  refine (Put_ok w h.pen n k hk hn hl h.pen.blk.lt).mono ?_
  rintro e w1 ⟨rfl, v1, hP, ht, _⟩
  obtain ⟨k1, k2⟩ := h.write hP ht
  refine ⟨rfl, k2, (RPut_ok w1 k1 n k hk hn hl k1.blk.lt).mono ?_⟩
  rintro e w2 ⟨rfl, u2, hR, ht2, _⟩
  rw [List.take_of_length_le (Nat.le_refl _)] at hR
  exact ⟨rfl, v1, u2, h.both hP ht hR ht2⟩
set_option maxRecDepth 100000 in
theorem Code_both {w0 w : World} {b c : Nat} {v u : Value} {l : List Nat} (h : Both01 w0 w b c v u l) (bs : List UInt8) (hb : Is01 bs) (hl : l.length + bs.length ≤ 16777216) :
    Calls Try.prog 18 #[.pointer (some ⟨b, 0, none⟩), .string (str bs)] w fun e w1 => e = .returned (.int .i64 0) ∧ OnlyIn [] w0 w1 ∧
      Calls Try.prog 22 #[.pointer (some ⟨c, 0, none⟩), .string (str bs)] w1 fun e w2 => e = .returned (.int .i64 0) ∧ ∃ v' u', Both01 w0 w2 b c v' u' (l ++ digs bs) := by
  refine (Code_ok w h.pen bs hb hl h.pen.blk.lt).mono ?_
  rintro e w1 ⟨rfl, v1, hP, ht, _⟩
  obtain ⟨k1, k2⟩ := h.write hP ht
  refine ⟨rfl, k2, (RCode_ok w1 k1 bs hb hl k1.blk.lt).mono ?_⟩
  rintro e w2 ⟨rfl, u2, hR, ht2, _⟩
  rw [List.take_of_length_le (Nat.le_refl _)] at hR
  exact ⟨rfl, v1, u2, h.both hP ht hR ht2⟩

set_option maxRecDepth 100000 in
/-- Whatever the act, both answer alike. -/
theorem Code_alike {w0 w : World} {b c : Nat} {v u : Value} {l : List Nat} (h : Both01 w0 w b c v u l) (a : Act01) (ha : a.codes = true) (hl : l.length + a.s.length ≤ 16777216) :
    ∃ n : Int, Calls Try.prog 18 #[.pointer (some ⟨b, 0, none⟩), .string (str a.s)] w fun e w1 => e = .returned (.int .i64 n) ∧ OnlyIn [] w0 w1 ∧
      Calls Try.prog 22 #[.pointer (some ⟨c, 0, none⟩), .string (str a.s)] w1 fun e w2 => e = .returned (.int .i64 n) ∧ ∃ v' u', Both01 w0 w2 b c v' u' (l ++ (actBits a).getD []) := by
  by_cases h01 : Is01 a.s
  · refine ⟨0, (Code_both h a.s h01 hl).mono ?_⟩
    rintro e w1 ⟨rfl, h1, h2⟩
    have : (actBits a).getD [] = digs a.s := by simp [actBits, ha, h01]
    rw [this]
    exact ⟨rfl, h1, h2⟩
  · refine ⟨14, (Code_form w h.pen a.s h01 (by omega)).mono ?_⟩
    rintro e w1 ⟨rfl, rfl⟩
    refine ⟨rfl, h.on, (RCode_form w _ v a.s h01 (by omega)).mono ?_⟩
    rintro e w2 ⟨rfl, rfl⟩
    have : (actBits a).getD [] = [] := by simp [actBits, ha, h01]
    rw [this, List.append_nil]
    exact ⟨rfl, v, u, h⟩
set_option maxRecDepth 100000 in
theorem Put_alike {w0 w : World} {b c : Nat} {v u : Value} {l : List Nat} (h : Both01 w0 w b c v u l) (a : Act01) (ha : a.codes = false) (hak : a.ok) (hl : l.length + 32 ≤ 16777216) :
    ∃ n : Int, Calls Try.prog 17 #[.pointer (some ⟨b, 0, none⟩), .int .i64 a.n, .int .i64 a.b] w fun e w1 => e = .returned (.int .i64 n) ∧ OnlyIn [] w0 w1 ∧
      Calls Try.prog 23 #[.pointer (some ⟨c, 0, none⟩), .int .i64 a.n, .int .i64 a.b] w1 fun e w2 => e = .returned (.int .i64 n) ∧ ∃ v' u', Both01 w0 w2 b c v' u' (l ++ (actBits a).getD []) := by
  by_cases hin : 0 ≤ a.b ∧ a.b ≤ 32 ∧ 0 ≤ a.n ∧ a.n < 2 ^ a.b.toNat
  · obtain ⟨nn, hnn⟩ := Int.eq_ofNat_of_zero_le hin.2.2.1
    obtain ⟨bb, hbb⟩ := Int.eq_ofNat_of_zero_le hin.1
    have hlt2 : nn < 2 ^ bb := by have := hin.2.2.2; rw [hnn, hbb] at this; simp at this; exact_mod_cast this
    have hyes : (actBits a).getD [] = bitsOf nn bb := by simp only [actBits, ha, Bool.false_eq_true, if_false]; rw [if_pos hin, hnn, hbb]; simp
    have := Put_both h nn bb (by omega) hlt2 (by omega)
    rw [hyes, hnn, hbb]
    exact ⟨0, this⟩
  · have hr : a.b < 0 ∨ 32 < a.b ∨ a.n < 0 ∨ (0 ≤ a.b ∧ 2 ^ a.b.toNat ≤ a.n) := by
      by_cases h1 : a.b < 0
      · exact .inl h1
      · by_cases h2 : 32 < a.b
        · exact .inr (.inl h2)
        · by_cases h3 : a.n < 0
          · exact .inr (.inr (.inl h3))
          · refine .inr (.inr (.inr ⟨Int.not_lt.1 h1, Int.not_lt.1 fun h4 => hin ⟨Int.not_lt.1 h1, Int.not_lt.1 h2, Int.not_lt.1 h3, h4⟩⟩))
    refine ⟨3, (Put_range w h.pen a.n a.b hr).mono ?_⟩
    rintro e w1 ⟨rfl, rfl⟩
    refine ⟨rfl, h.on, (RPut_range w _ a.n a.b hak.1.2 hr).mono ?_⟩
    rintro e w2 ⟨rfl, rfl⟩
    have : (actBits a).getD [] = [] := by simp only [actBits, ha, Bool.false_eq_true, if_false]; rw [if_neg hin]; rfl
    rw [this, List.append_nil]
    exact ⟨rfl, v, u, h⟩

def pensAt (w : World) (b c : Nat) (l : List Act01) (i : Value) (wr : World) : Prop := ∃ (k : Nat) (v u : Value), k ≤ l.length ∧ i = .int .i64 (k : Int) ∧ Both01 w wr b c v u (allBits (l.take k))
theorem pens_next {w wr : World} {b c : Nat} {l : List Act01} {v u : Value} {k : Nat} {x : List Nat} (hk : k < l.length) (hx : (actBits (l[k]'hk)).getD [] = x) (h : Both01 w wr b c v u (allBits (l.take k) ++ x)) : pensAt w b c l (.int .i64 ((k + 1 : Nat) : Int)) wr := by
  refine ⟨k + 1, v, u, by omega, rfl, ?_⟩
  rw [List.take_succ_eq_append_getElem hk, allBits_append, allBits_one, hx]
  exact h
end Go.Proofs.Ytejomjkkjcnfnaa
