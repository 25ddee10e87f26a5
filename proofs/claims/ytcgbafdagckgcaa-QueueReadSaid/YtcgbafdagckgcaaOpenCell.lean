/-
  Arguments opened: a slice that lies in a cell. Nothing here names a program.
-/
import Derived.Test.YtcgbafdagckgcaaOpen
import Derived.Deep.Strs
namespace Go.Mine
open Go.ChangeShapes Go.WideShapes Go.Deep Go.RowKit
section
variable {H : Type} {enc : TypeId × Value → H} {P : Program} {w : World} {base : Nat} {spare : Nat → Bool} {held : Bool}
/-- A slice that lies in a cell. -/
theorem open_rd_cell {α : Type} {f : α → List Value} {k : Nat} {Q : α → Prop} {t e : TypeId} {fuel : Nat} {cs0 : List Value} {x0 : DataW H × List MemPlace} (hf : ∀ x, (f x).length = k) (hk : 0 < k) (ht : P.underlying t = some (.slice e)) (hC : P.cellsOf e = k)
    (hel : ∀ n cs x, DataW.trod enc P w base spare held n e cs = some x → ∃ a : α, cs = f a ∧ Q a) (hx : DataW.trod enc P w base spare held fuel t cs0 = some x0) :
    ∃ v, cs0 = [v] ∧ ∃ xs : List α, Rd w k v xs.length (xs.flatMap f) ∧ (∀ x ∈ xs, Q x) ∧ xs.length ≤ maxLen := by
  rcases open_slice ht hx with ⟨hcs, _⟩ | ⟨a, len, cap, m, n, D, Pl, hcs, hb, hl, hm, hmm, _, hi⟩
  · exact ⟨_, hcs, [], Rd.nil w k, by simp, by simp⟩
  · refine ⟨_, hcs, ?_⟩
    have hlm : len ≤ m := by rw [hmm]; split <;> omega
    obtain ⟨xs, hxl, hxs⟩ := choose_list (Q := fun i x => w.cells? base (a.add (i * k)) k = some (f x) ∧ Q x) len fun i hil => by
      obtain ⟨cs', hc, htr⟩ := hi i (by omega)
      obtain ⟨x, rfl, hq⟩ := hel _ _ _ htr
      rw [hC] at hc
      exact ⟨x, hc, hq⟩
    refine ⟨xs, ⟨flat_length hf xs, some a, cap, by rw [hxl], by omega, fun hpos => ?_⟩, fun x hxm => ?_, by omega⟩
    · have hsp : a.spot = none := by
        have h0 := (hxs 0 hpos).1
        obtain ⟨_, hlen, hat⟩ := World.cells?_some h0
        have h1 := hat 0 hk
        simp only [Nat.zero_mul, Addr.add, if_true] at h1
        rw [List.getElem?_eq_getElem (by rw [hf]; exact hk)] at h1
        unfold World.cell? at h1
        split at h1
        · split at h1
          · cases h1
          · rename_i hs; simpa using hs
        · cases h1
      obtain ⟨g, off, sp⟩ := a
      simp only at hsp
      subst hsp
      refine ⟨g, off, rfl, fun j u hu => ?_⟩
      rw [flat_get_div hf hk] at hu
      have hjd : j / k < xs.length := by
        rcases Nat.lt_or_ge (j / k) xs.length with h1 | h1
        · exact h1
        · rw [List.getElem?_eq_none h1] at hu; cases hu
      rw [List.getElem?_eq_getElem hjd] at hu
      obtain ⟨_, hlen, hat⟩ := World.cells?_some (hxs (j / k) hjd).1
      have h1 := hat (j % k) (Nat.mod_lt _ hk)
      rw [Addr.add_lit, Addr.add_lit] at h1
      have h2 : off + j / k * k + j % k = off + j := by
        have := Nat.div_add_mod j k
        rw [Nat.mul_comm] at this
        omega
      rw [h2] at h1
      rw [h1]
      exact hu
    · obtain ⟨i, hil, rfl⟩ := List.mem_iff_getElem.1 hxm
      exact (hxs i hil).2
end
end Go.Mine
