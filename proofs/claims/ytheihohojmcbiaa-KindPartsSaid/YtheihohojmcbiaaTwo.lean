/-
  What a round of an iterator comes to; results in cells. Nothing here names a program.
-/
import Derived.Test.YtheihohojmcbiaaRange
import Derived.Test.YtheihohojmcbiaaOwn
namespace Go.Mine
open Go.RowKit
/-- What a round comes to, by what it hands back. -/
def Both (b : Bool) (p q : Prop) : Prop := (b = true → p) ∧ (b = false → q)
theorem both_of {e : Ending} {p q : Prop} (h : (e = .returned (.bool true) ∧ p) ∨ (e = .returned (.bool false) ∧ q)) : ∃ b : Bool, e = .returned (.bool b) ∧ Both b p q := by
  rcases h with ⟨rfl, hp⟩ | ⟨rfl, hq⟩
  · exact ⟨true, rfl, fun _ => hp, fun h => by cases h⟩
  · exact ⟨false, rfl, fun h => (by cases h), fun _ => hq⟩
/-- How many places are still to come, read off the cell. -/
def toGo (n Ba : Nat) (w : World) : Nat := match w.cell? ⟨Ba, 0, none⟩ with
  | some (.int _ q) => n - q.toNat
  | _ => 0
theorem toGo_eq {n Ba p : Nat} {w : World} {t : TypeId} {k : IntKind} (h : Blk w Ba t [.int k (p : Int)]) : toGo n Ba w = n - p := by
  unfold toGo
  rw [h.cell (i := 0) rfl]
  simp
theorem res3_cells {P : Program} {w : World} {fn : Func} {p q r : Tmp} {b c d : Nat} {t1 t2 t3 : TypeId} {x y z : Value} (h : fn.results = #[.cell p t1, .cell q t2, .cell r t3]) (tmps : Array Value)
    (hp : tmps.getD p undef = .pointer (some ⟨b, 0, none⟩)) (hq : tmps.getD q undef = .pointer (some ⟨c, 0, none⟩)) (hr : tmps.getD r undef = .pointer (some ⟨d, 0, none⟩))
    (h1 : (loadVar t1 ⟨b, 0, none⟩).run P w = .ok x w) (h2 : (loadVar t2 ⟨c, 0, none⟩).run P w = .ok y w) (h3 : (loadVar t3 ⟨d, 0, none⟩).run P w = .ok z w) :
    (results fn tmps).run P w = .ok (.tuple #[x, y, z]) w := by
  have ha : ∀ b : Nat, (asAddr (.pointer (some ⟨b, 0, none⟩))).run P w = .ok ⟨b, 0, none⟩ w := fun _ => rfl
  simp only [results, h]
  simp only [Array.getD_eq_getD_getElem?] at hp hq hr
  simp [Sem.run_bind, Result.andThen, hp, hq, hr, ha, h1, h2, h3]
theorem res2_cells {P : Program} {w : World} {fn : Func} {p q : Tmp} {b c : Nat} {t1 t2 : TypeId} {x y : Value} (h : fn.results = #[.cell p t1, .cell q t2]) (tmps : Array Value)
    (hp : tmps.getD p undef = .pointer (some ⟨b, 0, none⟩)) (hq : tmps.getD q undef = .pointer (some ⟨c, 0, none⟩))
    (h1 : (loadVar t1 ⟨b, 0, none⟩).run P w = .ok x w) (h2 : (loadVar t2 ⟨c, 0, none⟩).run P w = .ok y w) :
    (results fn tmps).run P w = .ok (.tuple #[x, y]) w := by
  have ha : ∀ b : Nat, (asAddr (.pointer (some ⟨b, 0, none⟩))).run P w = .ok ⟨b, 0, none⟩ w := fun _ => rfl
  simp only [results, h]
  simp only [Array.getD_eq_getD_getElem?] at hp hq
  simp [Sem.run_bind, Result.andThen, hp, hq, ha, h1, h2]
theorem load_int {P : Program} {w : World} {b : Nat} {t ty : TypeId} {v : Value} {k : IntKind} (hb : Blk w b t [v]) (hu : P.underlying ty = some (.int k)) : (loadVar ty ⟨b, 0, none⟩).run P w = .ok v w := by
  have hc := hb.cell (i := 0) rfl
  simp [loadVar, isAgg, run_underlying hu, go_sem, hc]
end Go.Mine
