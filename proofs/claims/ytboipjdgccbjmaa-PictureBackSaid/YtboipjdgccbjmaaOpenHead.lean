/-
  Arguments opened: a picture's header.
-/
import Derived.Test.YtboipjdgccbjmaaOpenBytes
import Derived.Deep.Strs
namespace Go.Mine
open Go.ChangeShapes Go.WideShapes Go.Deep Go.RowKit
section
variable {H : Type} {enc : TypeId × Value → H} {P : Program} {w : World} {base : Nat} {spare : Nat → Bool} {held : Bool}
/-- A slice that lies in a cell. -/
theorem open_rd_cell {α : Type} {f : α → List Value} {k : Nat} {Q : α → Prop} {t e : TypeId} {fuel : Nat} {cs0 : List Value} {x0 : DataW H × List MemPlace} (hf : ∀ x, (f x).length = k) (hk : 0 < k) (ht : P.underlying t = some (.slice e)) (hC : P.cellsOf e = k)
    (hel : ∀ n cs x, DataW.trod enc P w base spare held n e cs = some x → ∃ a : α, cs = f a ∧ Q a) (hx : DataW.trod enc P w base spare held fuel t cs0 = some x0) :
    ∃ v, cs0 = [v] ∧ ∃ xs : List α, Rd w k v xs.length (xs.flatMap f) ∧ (∀ x ∈ xs, Q x) ∧ xs.length ≤ maxLen := by
  rcases open_slice ht hx with ⟨hcs, _⟩ | ⟨a, len, cap, m, n, D, Pl, hcs, hb, hl, hm, hmm, _, hi⟩
  · exact ⟨_, hcs, [], Rd.nil w k, by simp, by simp⟩
  · refine ⟨_, hcs, ?_⟩
    have hlm : len ≤ m := by rw [hmm]; split <;> omega
    obtain ⟨xs, hxl, hxs⟩ := choose_list (Q := fun i x => w.cells? base (a.add (i * k)) k = some (f x) ∧ Q x) len fun i hil => by
      obtain ⟨cs', hc, htr⟩ := hi i (by omega)
      obtain ⟨x, rfl, hq⟩ := hel _ _ _ htr
      rw [hC] at hc
      exact ⟨x, hc, hq⟩
    refine ⟨xs, ⟨flat_length hf xs, some a, cap, by rw [hxl], by omega, fun hpos => ?_⟩, fun x hxm => ?_, by omega⟩
    · have hsp : a.spot = none := by
        have h0 := (hxs 0 hpos).1
        obtain ⟨_, hlen, hat⟩ := World.cells?_some h0
        have h1 := hat 0 hk
        simp only [Nat.zero_mul, Addr.add, if_true] at h1
        rw [List.getElem?_eq_getElem (by rw [hf]; exact hk)] at h1
        unfold World.cell? at h1
        split at h1
        · split at h1
          · cases h1
          · rename_i hs; simpa using hs
        · cases h1
      obtain ⟨g, off, sp⟩ := a
      simp only at hsp
      subst hsp
      refine ⟨g, off, rfl, fun j u hu => ?_⟩
      rw [flat_get_div hf hk] at hu
      have hjd : j / k < xs.length := by
        rcases Nat.lt_or_ge (j / k) xs.length with h1 | h1
        · exact h1
        · rw [List.getElem?_eq_none h1] at hu; cases hu
      rw [List.getElem?_eq_getElem hjd] at hu
      obtain ⟨_, hlen, hat⟩ := World.cells?_some (hxs (j / k) hjd).1
      have h1 := hat (j % k) (Nat.mod_lt _ hk)
      rw [Addr.add_lit, Addr.add_lit] at h1
      have h2 : off + j / k * k + j % k = off + j := by
        have := Nat.div_add_mod j k
        rw [Nat.mul_comm] at this
        omega
      rw [h2] at h1
      rw [h1]
      exact hu
    · obtain ⟨i, hil, rfl⟩ := List.mem_iff_getElem.1 hxm
      exact (hxs i hil).2
end
end Go.Mine
namespace Go.Proofs.Ytboipjdgccbjmaa
open Go.RowKit Go.Mine Go.ChangeShapes Go.WideShapes Go.Joins Go.Deep
theorem Try.cellsIntH : Try.prog.cellsOf 3 = 1 := by kernel_rfl
theorem Try.cellsSliceH : Try.prog.cellsOf 22 = 1 := by kernel_rfl
theorem Try.cellsHead : Try.prog.cellsOf 24 = 3 := by kernel_rfl
/-- A header: time, type, spare bytes. -/
structure HeadIn where
  t : Int
  y : Int
  v : Value
  l : List UInt8
def HeadIn.ok (w : World) (h : HeadIn) : Prop := (-9223372036854775808 ≤ h.t ∧ h.t ≤ 9223372036854775807) ∧ (-9223372036854775808 ≤ h.y ∧ h.y ≤ 9223372036854775807) ∧ Rd w 1 h.v h.l.length (byteCells h.l) ∧ h.l.length ≤ maxLen
section
variable {H : Type} {enc : TypeId × Value → H} {w : World} {base : Nat} {spare : Nat → Bool} {held : Bool}
set_option maxRecDepth 100000 in
theorem open_head {r : Reach} {b0 : Nat} {v : Value} {d : DataW H} {p : List MemPlace} (hv : Value.okWide Try.prog w r b0 24 v) (h : DataW.Trod enc Try.prog w base spare held 24 v d p) :
    ∃ x : HeadIn, v = .agg #[.int .i64 x.t, .int .i64 x.y, x.v] ∧ x.ok w := by
  obtain ⟨cs, rfl, hsz⟩ := okWide_struct Try.underlying24 hv
  obtain ⟨n, hn⟩ := h
  obtain ⟨hl, hf⟩ := trod_fields Try.underlying24 hn
  rw [Try.cellsHead] at hl
  simp only [Value.cells] at hl hf
  obtain ⟨l0, hl0⟩ : ∃ l, cs.toList = l := ⟨_, rfl⟩
  rw [hl0] at hl hf
  match l0, hl with
  | [c0, c1, c2], _ =>
    obtain ⟨n0, y0, h0⟩ := hf 0 3 0 rfl
    obtain ⟨n1, y1, h1⟩ := hf 1 3 1 rfl
    obtain ⟨n2, y2, h2⟩ := hf 2 22 2 rfl
    simp only [Try.cellsIntH, Try.cellsSliceH, List.drop_zero, List.take_succ_cons, List.take_zero, List.drop_succ_cons] at h0 h1 h2
    obtain ⟨a, e0, -, hw0⟩ := DataW.trod_int Try.underlying3 h0
    obtain ⟨b, e1, -, hw1⟩ := DataW.trod_int Try.underlying3 h1
    obtain ⟨u, e2, xs, r1, _, r3⟩ := open_rd_cell (f := fun b : UInt8 => [Value.int .u8 (b.toNat : Int)]) (Q := fun _ => True) (fun _ => rfl) (Nat.le_refl 1) Try.underlying22 Try.cellsU8 (fun _ _ _ h => trod_byte h) h2
    simp only [List.cons.injEq, and_true] at e0 e1 e2
    subst e0 e1 e2
    rw [flat_bytes] at r1
    refine ⟨⟨a, b, c2, xs⟩, ?_, bounds_i64 hw0, bounds_i64 hw1, r1, r3⟩
    have : cs = #[.int .i64 a, .int .i64 b, c2] := by
      apply Array.ext'
      rw [hl0]
    rw [this]
end
end Go.Proofs.Ytboipjdgccbjmaa
