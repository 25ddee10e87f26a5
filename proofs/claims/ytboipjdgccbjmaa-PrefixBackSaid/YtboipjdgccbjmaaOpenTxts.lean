/-
  Arguments opened: texts; how many there may be.
-/
import Derived.Test.YtboipjdgccbjmaaTxts
import Derived.Test.YtboipjdgccbjmaaRows
import Derived.Test.YtboipjdgccbjmaaOpen
import Derived.Lib.SmallJoins
import Derived.SizedLaws
namespace Go.Mine
open Go.RowKit
theorem flat_txts (l : List (List UInt8)) : (l.flatMap fun s => [Value.string (str s)]) = txtCells l := by
  induction l with
  | nil => rfl
  | cons b bs ih => rw [List.flatMap_cons, ih]; rfl
theorem str_back (s : ByteArray) : str s.data.toList = s := by cases s; simp [str]
end Go.Mine
namespace Go.Proofs.Ytboipjdgccbjmaa
open Go.RowKit Go.Mine Go.ChangeShapes Go.WideShapes Go.Joins Go.Deep
theorem Try.cellsTxt : Try.prog.cellsOf 9 = 1 := by kernel_rfl
section
variable {H : Type} {enc : TypeId × Value → H} {w : World} {base : Nat} {spare : Nat → Bool} {held : Bool}
set_option maxRecDepth 100000 in
theorem trod_txt1 {n : Nat} {cs : List Value} {x : DataW H × List MemPlace} (h : DataW.trod enc Try.prog w base spare held n 9 cs = some x) : ∃ s : List UInt8, cs = [.string (str s)] ∧ s.length ≤ maxLen := by
  obtain ⟨d, rfl, -, hw⟩ := DataW.trod_string Try.underlying9 h
  exact ⟨d.data.toList, by rw [str_back], by rw [Array.length_toList]; exact hw⟩
set_option maxRecDepth 100000 in
theorem open_txts {r : Reach} {b0 : Nat} {v : Value} {d : DataW H} {p : List MemPlace} (hv : Value.okWide Try.prog w r b0 51 v) (h : DataW.Trod enc Try.prog w base spare held 51 v d p) :
    ∃ x : Value × List (List UInt8), v = x.1 ∧ (Rd w 1 x.1 x.2.length (txtCells x.2) ∧ (∀ s ∈ x.2, s.length ≤ maxLen) ∧ x.2.length ≤ maxLen) := by
  obtain ⟨xs, h1, h2, h3⟩ := open_rd (f := fun s : List UInt8 => [Value.string (str s)]) (Q := fun s => s.length ≤ maxLen) (fun _ => rfl) (Nat.le_refl 1) Try.underlying51 Try.cellsTxt (fun _ _ _ h => trod_txt1 h) hv h
  rw [flat_txts] at h1
  exact ⟨(v, xs), rfl, h1, h2, h3⟩
/-- A slice's datum has as many elements. -/
theorem open_len {P : Program} {t e : TypeId} {A : Option Addr} {len cap : Nat} {d : DataW H} {p : List MemPlace} (ht : P.underlying t = some (.slice e)) (h : DataW.Trod enc P w base spare held t (.slice A len cap) d p) :
    (d = .nil ∧ len = 0) ∨ ∃ elems sp, d = .slice elems sp ∧ elems.length = len := by
  obtain ⟨fuel, hx⟩ := h
  rcases open_slice ht hx with ⟨hcs, he⟩ | ⟨a, len', cap', m, n, D, Pl, hcs, hb, hl, hm, hmm, he, hi⟩
  · simp [Value.cells] at hcs
    obtain ⟨rfl, rfl, rfl⟩ := hcs
    injection he with h1 h2
    exact .inl ⟨h1, rfl⟩
  · simp [Value.cells] at hcs
    obtain ⟨rfl, rfl, rfl⟩ := hcs
    injection he with h1 h2
    exact .inr ⟨_, _, h1, by simp⟩
/-- So many texts at most. -/
theorem sized_txts {ts : List TypeId} {ds : List (DataW H)} (hsz : (DataW.weightsEach Try.prog ts ds).all (· ≤ reachBytes) = true) {j : Nat} (hj : ts[j]? = some 51) {d : DataW H} (hd : ds[j]? = some d)
    {x : Value × List (List UInt8)} {p : List MemPlace} (hx : Rd w 1 x.1 x.2.length (txtCells x.2)) (h : DataW.Trod enc Try.prog w base spare held 51 x.1 d p) : x.2.length * 16 ≤ 140737488355328 := by
  obtain ⟨-, A, c, hv, -⟩ := hx
  rw [hv] at h
  have hlt := reachBytes_lt
  rcases open_len Try.underlying51 h with ⟨-, h0⟩ | ⟨elems, sp, rfl, hl⟩
  · omega
  · have := sized_slice hsz hj hd Try.underlying51
    rw [show Try.prog.bytesOf 9 = 16 by kernel_rfl] at this
    omega
end
end Go.Proofs.Ytboipjdgccbjmaa
