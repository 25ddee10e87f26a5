/-
  Package bits: a pen of the call's own, by what it wrote alone.
-/
import Derived.Test.YteblkjmeaojegaaDoorPenCode
namespace Go.Proofs.YteblkjmeaojegaaDoor
open Go.RowKit Go.Mine

/-- Since w0 nothing old has turned, and a pen lies at b that wrote l. -/
def PenR (w0 w : World) (b : Nat) (l : List Nat) : Prop := ∃ v, PenAt w (b + 1) b v l ∧ OnlyIn [] w0 w ∧ w0.heap.size ≤ b
theorem PenR.only {w0 w : World} {b : Nat} {l : List Nat} (h : PenR w0 w b l) : OnlyIn [] w0 w := by obtain ⟨v, _, h, _⟩ := h; exact h
theorem PenR.bin {w0 w : World} {b : Nat} {l : List Nat} (h : PenR w0 w b l) : Bin l := by obtain ⟨v, h, _⟩ := h; exact h.bin
theorem PenR.step {w0 w w' : World} {b : Nat} {l : List Nat} (h : PenR w0 w b l) (ht : OnlyIn [] w w') : PenR w0 w' b l := by
  obtain ⟨v, h1, h2, h3⟩ := h
  exact ⟨v, h1.only0 ht, h2.trans ht, h3⟩
theorem PenR.turn {w0 w w' : World} {b : Nat} {v v' : Value} {l l' : List Nat} (h1 : PenAt w (b + 1) b v l) (h2 : OnlyIn [] w0 w) (h3 : w0.heap.size ≤ b) (hP : PenAt w' (b + 1) b v' l') (ht : OnlyIn (b :: v.ownBlock.toList) w w') : PenR w0 w' b l' :=
  ⟨v', hP, h2.then ht (fun j hj => by
    simp only [List.mem_cons, Option.mem_toList] at hj
    rcases hj with hj | hj
    · exact .inr (by omega)
    · have := (h1.sl.own_lt j hj).1
      exact .inr (by omega)), h3⟩
set_option maxRecDepth 100000 in
theorem NewPen_R (w0 w : World) (h : OnlyIn [] w0 w) : Calls Tryd.prog 23 #[] w fun e w' => ∃ b, e = .returned (.pointer (some ⟨b, 0, none⟩)) ∧ PenR w0 w' b [] :=
  (NewPen_any w).mono fun _ _ ⟨he, hP, ht⟩ => ⟨_, he, _, hP, h.trans ht, h.size⟩
set_option maxRecDepth 100000 in
theorem Code_R {w0 w : World} {b : Nat} {l : List Nat} (h : PenR w0 w b l) (bs : List UInt8) (hb : Is01 bs) (hl : l.length + bs.length ≤ 16777216) :
    Calls Tryd.prog 24 #[.pointer (some ⟨b, 0, none⟩), .string (str bs)] w fun e w' => e = .returned (.int .i64 0) ∧ PenR w0 w' b (l ++ digs bs) := by
  obtain ⟨v, h1, h2, h3⟩ := h
  exact (Code_ok w h1 bs hb hl h1.blk.lt).mono fun _ _ ⟨he, v', hP, ht, _⟩ => ⟨he, PenR.turn h1 h2 h3 hP ht⟩
set_option maxRecDepth 100000 in
theorem Len_R {w0 w : World} {b : Nat} {l : List Nat} (h : PenR w0 w b l) : Calls Tryd.prog 26 #[.pointer (some ⟨b, 0, none⟩)] w fun e w' => e = .returned (.int .i64 (l.length : Int)) ∧ w = w' := by
  obtain ⟨v, h1, h2, h3⟩ := h
  exact Len_any w h1
set_option maxRecDepth 100000 in
theorem Bytes_R {w0 w : World} {b : Nat} {l : List Nat} (h : PenR w0 w b l) : Calls Tryd.prog 25 #[.pointer (some ⟨b, 0, none⟩)] w fun e w' => ∃ u, e = .returned u ∧ Sl w' w.heap.size 5 1 u (pack l).length (byteCells (pack l)) ∧ PenR w0 w' b l := by
  have h' := h
  obtain ⟨v, h1, h2, h3⟩ := h
  exact (Bytes_any w h1).mono fun _ _ ⟨u, he, hs, ht⟩ => ⟨u, he, hs, h'.step ht⟩
theorem PenR.small {w0 w : World} {b : Nat} {l : List Nat} (h : PenR w0 w b l) : l.length ≤ 16777216 := by obtain ⟨v, h, _⟩ := h; exact h.small
end Go.Proofs.YteblkjmeaojegaaDoor
