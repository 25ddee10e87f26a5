/-
  Law 01: its acts: opened, and Long.
-/
import Derived.Test.YtejomjkkjcnfnaaLaw01
import Derived.Test.YtejomjkkjcnfnaaOpen
import Derived.Lib.SmallJoins
namespace Go.Mine
structure Act01 where
  codes : Bool
  n : Int
  b : Int
  s : List UInt8
def Act01.cells (a : Act01) : List Value := [.bool a.codes, .int .i64 a.n, .int .i64 a.b, .string (str a.s)]
theorem Act01.len (a : Act01) : a.cells.length = 4 := rfl
def Act01.ok (a : Act01) : Prop := (-9223372036854775808 ≤ a.n ∧ a.n ≤ 9223372036854775807) ∧ (-9223372036854775808 ≤ a.b ∧ a.b ≤ 9223372036854775807) ∧ a.s.length ≤ maxLen
theorem str_of (s : ByteArray) : str s.data.toList = s := by simp [str]
/-- Few enough. -/
def Small01 (l : List Act01) : Prop := l.length ≤ 60 ∧ ∀ a ∈ l, a.s.length ≤ 100
end Go.Mine
namespace Go.Proofs.Ytejomjkkjcnfnaa
open Go.RowKit Go.Mine Go.ChangeShapes Go.WideShapes Go.Joins

theorem Try.cellsAct01 : Try.prog.cellsOf 23 = 4 := by kernel_rfl
theorem Try.cellsInt01 : Try.prog.cellsOf 3 = 1 := by kernel_rfl
theorem Try.cellsBool01 : Try.prog.cellsOf 4 = 1 := by kernel_rfl
theorem Try.cellsStr01 : Try.prog.cellsOf 9 = 1 := by kernel_rfl
section
variable {H : Type} {enc : TypeId × Value → H} {w : World} {base : Nat} {spare : Nat → Bool} {held : Bool}
set_option maxRecDepth 100000 in
theorem trod_act01 {n : Nat} {cs : List Value} {x : DataW H × List MemPlace} (h : DataW.trod enc Try.prog w base spare held n 23 cs = some x) : ∃ a : Act01, cs = a.cells ∧ a.ok := by
  obtain ⟨hl, hf⟩ := trod_fields Try.underlying23 h
  rw [Try.cellsAct01] at hl
  match cs, hl with
  | [c0, c1, c2, c3], _ =>
    obtain ⟨n0, y0, h0⟩ := hf 0 4 0 rfl
    obtain ⟨n1, y1, h1⟩ := hf 1 3 1 rfl
    obtain ⟨n2, y2, h2⟩ := hf 2 3 2 rfl
    obtain ⟨n3, y3, h3⟩ := hf 3 9 3 rfl
    simp only [Try.cellsInt01, Try.cellsBool01, Try.cellsStr01, List.drop_zero, List.take_succ_cons, List.take_zero, List.drop_succ_cons] at h0 h1 h2 h3
    obtain ⟨a, e0, -⟩ := DataW.trod_bool Try.underlying4 h0
    obtain ⟨b, e1, -, w1⟩ := DataW.trod_int Try.underlying3 h1
    obtain ⟨c, e2, -, w2⟩ := DataW.trod_int Try.underlying3 h2
    obtain ⟨d, e3, -, w3⟩ := DataW.trod_string Try.underlying9 h3
    simp only [List.cons.injEq, and_true] at e0 e1 e2 e3
    subst e0 e1 e2 e3
    exact ⟨⟨a, b, c, d.data.toList⟩, by simp only [Act01.cells, str_of], bounds_i64 w1, bounds_i64 w2, by show d.data.toList.length ≤ maxLen; rw [Array.length_toList]; exact w3⟩
set_option maxRecDepth 100000 in
theorem open_act01 {r : Reach} {b0 : Nat} {v : Value} {d : DataW H} {p : List MemPlace} (hv : Value.okWide Try.prog w r b0 23 v) (h : DataW.Trod enc Try.prog w base spare held 23 v d p) :
    ∃ a : Act01, v = .agg #[.bool a.codes, .int .i64 a.n, .int .i64 a.b, .string (str a.s)] ∧ a.ok := by
  obtain ⟨cs, rfl, hsz⟩ := okWide_struct Try.underlying23 hv
  obtain ⟨n, hn⟩ := h
  obtain ⟨i, hi, ho⟩ := trod_act01 hn
  refine ⟨i, ?_, ho⟩
  have : cs = i.cells.toArray := by
    apply Array.ext'
    simpa [Value.cells] using hi
  rw [this]
  rfl
set_option maxRecDepth 100000 in
theorem open_acts01 {r : Reach} {b0 : Nat} {v : Value} {d : DataW H} {p : List MemPlace} (hv : Value.okWide Try.prog w r b0 25 v) (h : DataW.Trod enc Try.prog w base spare held 25 v d p) :
    ∃ x : Value × List Act01, v = x.1 ∧ (Rd w 4 x.1 x.2.length (x.2.flatMap Act01.cells) ∧ (∀ a ∈ x.2, a.ok) ∧ x.2.length ≤ maxLen) := by
  obtain ⟨xs, h1, h2, h3⟩ := open_rd Act01.len (by omega) Try.underlying25 Try.cellsAct01 (fun _ _ _ h => trod_act01 h) hv h
  exact ⟨(v, xs), rfl, h1, h2, h3⟩
end

/-- The cells of an act. -/
theorem act_cells {w : World} {v : Value} {l : List Act01} (hr : Rd w 4 v l.length (l.flatMap Act01.cells)) {k : Nat} (hk : k < l.length) :
    ∃ g off c, v = .slice (some ⟨g, off, none⟩) l.length c ∧ w.cell? ⟨g, off + k * 4, none⟩ = some (.bool (l[k]'hk).codes) ∧ w.cell? ⟨g, off + k * 4 + 1, none⟩ = some (.int .i64 (l[k]'hk).n) ∧
      w.cell? ⟨g, off + k * 4 + 2, none⟩ = some (.int .i64 (l[k]'hk).b) ∧ w.cell? ⟨g, off + k * 4 + 3, none⟩ = some (.string (str (l[k]'hk).s)) := by
  obtain ⟨-, A, c, rfl, hc, hA⟩ := hr
  obtain ⟨g, off, rfl, hg⟩ := hA (by omega)
  have hx : ∀ j, j < 4 → (l.flatMap Act01.cells)[k * 4 + j]? = ((l[k]'hk).cells)[j]? := fun j hj => by
    rw [flat_get Act01.len l _ j hj, List.getElem?_eq_getElem hk]; rfl
  exact ⟨g, off, c, rfl, hg _ _ (hx 0 (by omega)), hg _ _ (hx 1 (by omega)), hg _ _ (hx 2 (by omega)), hg _ _ (hx 3 (by omega))⟩

set_option maxRecDepth 100000 in
theorem Long_no (w : World) (v : Value) (l : List Act01) (hr : Rd w 4 v l.length (l.flatMap Act01.cells)) (hs : Small01 l) :
    Calls Try.prog 15 #[v] w fun e w' => e = .returned (.bool false) ∧ w = w' := by
  obtain ⟨h60, hall⟩ := hs
  obtain ⟨A, c, rfl⟩ : ∃ A c, v = .slice A l.length c := by
    obtain ⟨-, A, c, rfl, -⟩ := hr
    exact ⟨A, c, rfl⟩
  have HA := Lib.hid hall
  clear hall
  go_enter Try.func15, Try.ntmps15
  go_wp2_with fail
  go_loop [3] (fun i => ∃ k : Nat, k ≤ l.length ∧ i = .int .i64 (k : Int)) (fun i => l.length - (intOf i).toNat)
  case atStart => exact ⟨0, by omega, rfl⟩
  case round =>
    obtain ⟨k, hk, rfl⟩ := hrel
    by_cases hlt : k < l.length
    · obtain ⟨g, off, c, hv, q0, q1, q2, q3⟩ := act_cells hr hlt
      injection hv with hv _ hcc
      subst hv hcc
      have hsz : (str (l[k]'hlt).s).size ≤ 100 := by rw [str_size]; exact HA.out _ (List.getElem_mem hlt)
      go_wp2_with fail
      go_round
      case rel => exact ⟨k + 1, by omega, by go_num⟩
      case measure => simp [intOf]; omega
    · obtain rfl : k = l.length := by omega
      go_wp2_with fail
      go_ret
      simp; omega
set_option maxRecDepth 100000 in
theorem Long_yes (w : World) (v : Value) (l : List Act01) (hr : Rd w 4 v l.length (l.flatMap Act01.cells)) (hml : l.length ≤ maxLen) (hok : ∀ a ∈ l, a.s.length ≤ maxLen) (hs : ¬ Small01 l) :
    Calls Try.prog 15 #[v] w fun e w' => e = .returned (.bool true) ∧ w = w' := by
  unfold maxLen at hml
  obtain ⟨A, c, rfl⟩ : ∃ A c, v = .slice A l.length c := by
    obtain ⟨-, A, c, rfl, -⟩ := hr
    exact ⟨A, c, rfl⟩
  have HS := Lib.hid (And.intro hs hok)
  clear hs hok
  go_enter Try.func15, Try.ntmps15
  go_wp2_with fail
  go_loop [3] (fun i => ∃ k : Nat, k ≤ l.length ∧ k ≤ 61 ∧ i = .int .i64 (k : Int) ∧ Hid (∀ j a, j < k → l[j]? = some a → a.s.length ≤ 100)) (fun i => l.length - (intOf i).toNat)
  case atStart => exact ⟨0, by omega, by omega, rfl, Lib.hid (fun j a hj => absurd hj (by omega))⟩
  case round =>
    obtain ⟨k, hk, hk2, rfl, HZ⟩ := hrel
    by_cases hlt : k < l.length
    · by_cases h61 : k < 61
      · obtain ⟨g, off, c, hv, q0, q1, q2, q3⟩ := act_cells hr hlt
        injection hv with hv _ hcc
        subst hv hcc
        have hmx : (str (l[k]'hlt).s).size ≤ 9223372036854775807 := by rw [str_size]; have := HS.out.2 _ (List.getElem_mem hlt); unfold maxLen at this; exact this
        by_cases h100 : (str (l[k]'hlt).s).size ≤ 100
        · have HZ2 : Hid (∀ j a, j < k + 1 → l[j]? = some a → a.s.length ≤ 100) := Lib.hid (fun j a hj hja => by
            by_cases hjk : j = k
            · subst hjk; rw [List.getElem?_eq_getElem hlt] at hja; injection hja with hja; rw [← hja, ← str_size]; exact h100
            · exact HZ.out j a (by omega) hja)
          go_wp2_with fail
          go_round
          case rel => exact ⟨k + 1, by omega, by omega, by go_num, HZ2⟩
          case measure => simp [intOf]; omega
        · go_wp2_with fail
          go_ret
          exact ⟨rfl, rfl⟩
      · obtain rfl : k = 61 := by omega
        go_wp2_with fail
        go_ret
        simp; omega
    · obtain rfl : k = l.length := by omega
      have h60 : 60 < l.length := by
        rcases Nat.lt_or_ge 60 l.length with h | h
        · exact h
        · exfalso
          exact HS.out.1 ⟨h, fun a ha => by
            obtain ⟨j, hj⟩ := List.getElem?_of_mem ha
            exact HZ.out j a (List.getElem?_eq_some_iff.1 hj).1 hj⟩
      go_wp2_with fail
      go_ret
      simp; omega
end Go.Proofs.Ytejomjkkjcnfnaa
