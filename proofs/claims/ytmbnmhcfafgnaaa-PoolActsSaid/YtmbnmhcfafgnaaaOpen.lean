/-
  Arguments opened: a slice whatever its elements, given how one element reads. Nothing here names a program.
-/
import Derived.Test.YtmbnmhcfafgnaaaSlice
import Derived.ProofKit
import Derived.OpenShut
import Derived.Deep.Slices
import Derived.Deep.Fields
namespace Go.Mine
open Go.ChangeShapes Go.WideShapes Go.Deep

section
variable {H : Type} {enc : TypeId × Value → H} {P : Program} {w : World} {base : Nat} {spare : Nat → Bool} {held : Bool}

theorem choose_list {α : Type} {Q : Nat → α → Prop} : ∀ n, (∀ i, i < n → ∃ a, Q i a) → ∃ xs : List α, xs.length = n ∧ ∀ i (h : i < xs.length), Q i xs[i]
  | 0, _ => ⟨[], rfl, fun i h => absurd h (by simp)⟩
  | n + 1, h => by
    obtain ⟨xs, hl, hx⟩ := choose_list (Q := Q) n fun i hi => h i (by omega)
    obtain ⟨a, ha⟩ := h n (by omega)
    refine ⟨xs ++ [a], by simp [hl], fun i hi => ?_⟩
    by_cases hin : i < xs.length
    · rw [List.getElem_append_left hin]
      exact hx i hin
    · have : i = n := by simp at hi; omega
      subst this
      simp [← hl] at ha ⊢
      exact ha

theorem open_rd {α : Type} {f : α → List Value} {k : Nat} {Q : α → Prop} {t e : TypeId} {r : Reach} {b0 : Nat} {v : Value} {d : DataW H} {p : List MemPlace} (hf : ∀ x, (f x).length = k) (hk : 0 < k) (ht : P.underlying t = some (.slice e)) (hC : P.cellsOf e = k)
    (hel : ∀ n cs x, DataW.trod enc P w base spare held n e cs = some x → ∃ a : α, cs = f a ∧ Q a) (hv : Value.okWide P w r b0 t v) (h : DataW.Trod enc P w base spare held t v d p) :
    ∃ xs : List α, Rd w k v xs.length (xs.flatMap f) ∧ (∀ x ∈ xs, Q x) ∧ xs.length ≤ maxLen := by
  obtain ⟨A, len, cap, rfl⟩ := okWide_slice ht hv
  obtain ⟨fuel, hx⟩ := h
  rcases open_slice ht hx with ⟨hcs, _⟩ | ⟨a, len', cap', m, n, D, Pl, hcs, hb, hl, hm, hmm, _, hi⟩
  · simp [Value.cells] at hcs
    obtain ⟨rfl, rfl, rfl⟩ := hcs
    exact ⟨[], Rd.nil w k, by simp, by simp⟩
  · simp [Value.cells] at hcs
    obtain ⟨rfl, rfl, rfl⟩ := hcs
    have hlm : len ≤ m := by rw [hmm]; split <;> omega
    obtain ⟨xs, hxl, hxs⟩ := choose_list (Q := fun i x => w.cells? base (a.add (i * k)) k = some (f x) ∧ Q x) len fun i hil => by
      obtain ⟨cs', hc, htr⟩ := hi i (by omega)
      obtain ⟨x, rfl, hq⟩ := hel _ _ _ htr
      rw [hC] at hc
      exact ⟨x, hc, hq⟩
    refine ⟨xs, ⟨flat_length hf xs, some a, cap, by rw [hxl], by omega, fun hpos => ?_⟩, fun x hxm => ?_, by omega⟩
    · have hsp : a.spot = none := by
        have h0 := (hxs 0 hpos).1
        obtain ⟨_, hlen, hat⟩ := World.cells?_some h0
        have h1 := hat 0 hk
        simp only [Nat.zero_mul, Addr.add, if_true] at h1
        rw [List.getElem?_eq_getElem (by rw [hf]; exact hk)] at h1
        unfold World.cell? at h1
        split at h1
        · split at h1
          · cases h1
          · rename_i hs; simpa using hs
        · cases h1
      obtain ⟨g, off, sp⟩ := a
      simp only at hsp
      subst hsp
      refine ⟨g, off, rfl, fun j u hu => ?_⟩
      rw [flat_get_div hf hk] at hu
      have hjd : j / k < xs.length := by
        rcases Nat.lt_or_ge (j / k) xs.length with h1 | h1
        · exact h1
        · rw [List.getElem?_eq_none h1] at hu; cases hu
      rw [List.getElem?_eq_getElem hjd] at hu
      obtain ⟨_, hlen, hat⟩ := World.cells?_some (hxs (j / k) hjd).1
      have h1 := hat (j % k) (Nat.mod_lt _ hk)
      rw [Addr.add_lit, Addr.add_lit] at h1
      have h2 : off + j / k * k + j % k = off + j := by
        have := Nat.div_add_mod j k
        rw [Nat.mul_comm] at this
        omega
      rw [h2] at h1
      rw [h1]
      exact hu
    · obtain ⟨i, hil, rfl⟩ := List.mem_iff_getElem.1 hxm
      exact (hxs i hil).2

/-- A struct: each field by its own reading. -/
theorem trod_fields {t : TypeId} {fs : Array Field} {fuel : Nat} {cs : List Value} {x : DataW H × List MemPlace} (ht : P.underlying t = some (.struct fs)) (h : DataW.trod enc P w base spare held fuel t cs = some x) :
    cs.length = P.cellsOf t ∧ ∀ (i : Nat) (ty off : Nat), (fs[i]?).map (fun f => (f.type, f.offset)) = some (ty, off) → ∃ n y, DataW.trod enc P w base spare held n ty ((cs.drop off).take (P.cellsOf ty)) = some y := by
  obtain ⟨xs, n, _, _, hl, hxl, hg⟩ := DataW.trod_struct ht h
  refine ⟨hl, fun i ty off hm => ?_⟩
  obtain ⟨f, hf, hfe⟩ := Option.map_eq_some_iff.1 hm
  simp only [Prod.mk.injEq] at hfe
  obtain ⟨rfl, rfl⟩ := hfe
  have hi : i < xs.length := by rw [hxl]; exact (Array.getElem?_eq_some_iff.1 hf).1
  exact ⟨n, xs[i], by rw [hg i f hf]; exact List.getElem?_eq_getElem hi⟩
end
end Go.Mine
