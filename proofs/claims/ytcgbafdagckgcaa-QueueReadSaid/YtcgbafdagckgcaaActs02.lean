/-
  Law 02: its acts: opened, and Long.
-/
import Derived.Test.YtcgbafdagckgcaaOpenCell
import Derived.Test.YtcgbafdagckgcaaOpenBytes
import Derived.Lib.SmallJoins
namespace Go.Mine
structure Act02 where
  kind : Int
  n : Int
  v : Value
  l : List UInt8
def Act02.cells (a : Act02) : List Value := [.int .i64 a.kind, .int .i64 a.n, a.v]
theorem Act02.len (a : Act02) : a.cells.length = 3 := rfl
def Act02.ok (w : World) (a : Act02) : Prop := (-9223372036854775808 ≤ a.kind ∧ a.kind ≤ 9223372036854775807) ∧ (-9223372036854775808 ≤ a.n ∧ a.n ≤ 9223372036854775807) ∧ Rd w 1 a.v a.l.length (byteCells a.l) ∧ a.l.length ≤ maxLen
/-- Few enough. -/
def Small02 (l : List Act02) : Prop := l.length ≤ 60 ∧ ∀ a ∈ l, a.l.length ≤ 100
end Go.Mine
namespace Go.Proofs.Ytcgbafdagckgcaa
open Go.RowKit Go.Mine Go.ChangeShapes Go.WideShapes Go.Joins

theorem Try.cellsAct02 : Try.prog.cellsOf 69 = 3 := by kernel_rfl
theorem Try.cellsInt02 : Try.prog.cellsOf 3 = 1 := by kernel_rfl
theorem Try.cellsSlice02 : Try.prog.cellsOf 54 = 1 := by kernel_rfl
section
variable {H : Type} {enc : TypeId × Value → H} {w : World} {base : Nat} {spare : Nat → Bool} {held : Bool}
set_option maxRecDepth 100000 in
theorem trod_act02 {n : Nat} {cs : List Value} {x : DataW H × List MemPlace} (h : DataW.trod enc Try.prog w base spare held n 69 cs = some x) : ∃ a : Act02, cs = a.cells ∧ a.ok w := by
  obtain ⟨hl, hf⟩ := trod_fields Try.underlying69 h
  rw [Try.cellsAct02] at hl
  match cs, hl with
  | [c0, c1, c2], _ =>
    obtain ⟨n0, y0, h0⟩ := hf 0 3 0 rfl
    obtain ⟨n1, y1, h1⟩ := hf 1 3 1 rfl
    obtain ⟨n2, y2, h2⟩ := hf 2 54 2 rfl
    simp only [Try.cellsInt02, Try.cellsSlice02, List.drop_zero, List.take_succ_cons, List.take_zero, List.drop_succ_cons] at h0 h1 h2
    obtain ⟨a, e0, -, w0⟩ := DataW.trod_int Try.underlying3 h0
    obtain ⟨b, e1, -, w1⟩ := DataW.trod_int Try.underlying3 h1
    obtain ⟨u, e2, xs, r1, _, r3⟩ := open_rd_cell (f := fun b : UInt8 => [Value.int .u8 (b.toNat : Int)]) (Q := fun _ => True) (fun _ => rfl) (Nat.le_refl 1) Try.underlying54 Try.cellsU8 (fun _ _ _ h => trod_byte h) h2
    simp only [List.cons.injEq, and_true] at e0 e1 e2
    subst e0 e1 e2
    rw [flat_bytes] at r1
    exact ⟨⟨a, b, c2, xs⟩, rfl, bounds_i64 w0, bounds_i64 w1, r1, r3⟩
set_option maxRecDepth 100000 in
theorem open_acts02 {r : Reach} {b0 : Nat} {v : Value} {d : DataW H} {p : List MemPlace} (hv : Value.okWide Try.prog w r b0 66 v) (h : DataW.Trod enc Try.prog w base spare held 66 v d p) :
    ∃ x : Value × List Act02, v = x.1 ∧ (Rd w 3 x.1 x.2.length (x.2.flatMap Act02.cells) ∧ (∀ a ∈ x.2, a.ok w) ∧ x.2.length ≤ maxLen) := by
  obtain ⟨xs, h1, h2, h3⟩ := open_rd Act02.len (by omega) Try.underlying66 Try.cellsAct02 (fun _ _ _ h => trod_act02 h) hv h
  exact ⟨(v, xs), rfl, h1, h2, h3⟩
end

/-- The cells of an act. -/
theorem act02_cells {w : World} {v : Value} {l : List Act02} (hr : Rd w 3 v l.length (l.flatMap Act02.cells)) {k : Nat} (hk : k < l.length) :
    ∃ g off c, v = .slice (some ⟨g, off, none⟩) l.length c ∧ w.cell? ⟨g, off + k * 3, none⟩ = some (.int .i64 (l[k]'hk).kind) ∧ w.cell? ⟨g, off + k * 3 + 1, none⟩ = some (.int .i64 (l[k]'hk).n) ∧
      w.cell? ⟨g, off + k * 3 + 2, none⟩ = some (l[k]'hk).v := by
  obtain ⟨-, A, c, rfl, hc, hA⟩ := hr
  obtain ⟨g, off, rfl, hg⟩ := hA (by omega)
  have hx : ∀ j, j < 3 → (l.flatMap Act02.cells)[k * 3 + j]? = ((l[k]'hk).cells)[j]? := fun j hj => by
    rw [flat_get Act02.len l _ j hj, List.getElem?_eq_getElem hk]; rfl
  exact ⟨g, off, c, rfl, hg _ _ (hx 0 (by omega)), hg _ _ (hx 1 (by omega)), hg _ _ (hx 2 (by omega))⟩

set_option maxRecDepth 100000 in
theorem Long02_no (w : World) (v : Value) (l : List Act02) (hr : Rd w 3 v l.length (l.flatMap Act02.cells)) (hok : ∀ a ∈ l, ∃ A c, a.v = .slice A a.l.length c) (hs : Small02 l) :
    Calls Try.prog 45 #[v] w fun e w' => e = .returned (.bool false) ∧ w = w' := by
  obtain ⟨h60, hall⟩ := hs
  obtain ⟨A, c, rfl⟩ : ∃ A c, v = .slice A l.length c := by
    obtain ⟨-, A, c, rfl, -⟩ := hr
    exact ⟨A, c, rfl⟩
  have HA := Lib.hid (And.intro hall hok)
  clear hall hok
  go_enter Try.func45, Try.ntmps45
  go_wp2_with fail
  go_loop [3] (fun i => ∃ k : Nat, k ≤ l.length ∧ i = .int .i64 (k : Int)) (fun i => l.length - (intOf i).toNat)
  case atStart => exact ⟨0, by omega, rfl⟩
  case round =>
    obtain ⟨k, hk, rfl⟩ := hrel
    by_cases hlt : k < l.length
    · obtain ⟨g, off, c, hv, q0, q1, q2⟩ := act02_cells hr hlt
      injection hv with hv _ hcc
      subst hv hcc
      obtain ⟨A2, c2, hv2⟩ := HA.out.2 _ (List.getElem_mem hlt)
      have hsz : (l[k]'hlt).l.length ≤ 100 := HA.out.1 _ (List.getElem_mem hlt)
      rw [hv2] at q2
      go_wp2_with fail
      go_round
      case rel => exact ⟨k + 1, by omega, by go_num⟩
      case measure => simp [intOf]; omega
    · obtain rfl : k = l.length := by omega
      go_wp2_with fail
      go_ret
      simp; omega
set_option maxRecDepth 100000 in
theorem Long02_yes (w : World) (v : Value) (l : List Act02) (hr : Rd w 3 v l.length (l.flatMap Act02.cells)) (hml : l.length ≤ maxLen) (hok : ∀ a ∈ l, ∃ A c, a.v = .slice A a.l.length c) (hok2 : ∀ a ∈ l, a.l.length ≤ maxLen) (hs : ¬ Small02 l) :
    Calls Try.prog 45 #[v] w fun e w' => e = .returned (.bool true) ∧ w = w' := by
  unfold maxLen at hml
  obtain ⟨A, c, rfl⟩ : ∃ A c, v = .slice A l.length c := by
    obtain ⟨-, A, c, rfl, -⟩ := hr
    exact ⟨A, c, rfl⟩
  have HS := Lib.hid (And.intro hs (And.intro hok hok2))
  clear hs hok hok2
  go_enter Try.func45, Try.ntmps45
  go_wp2_with fail
  go_loop [3] (fun i => ∃ k : Nat, k ≤ l.length ∧ k ≤ 61 ∧ i = .int .i64 (k : Int) ∧ Hid (∀ j a, j < k → l[j]? = some a → a.l.length ≤ 100)) (fun i => l.length - (intOf i).toNat)
  case atStart => exact ⟨0, by omega, by omega, rfl, Lib.hid (fun j a hj => absurd hj (by omega))⟩
  case round =>
    obtain ⟨k, hk, hk2, rfl, HZ⟩ := hrel
    by_cases hlt : k < l.length
    · by_cases h61 : k < 61
      · obtain ⟨g, off, c, hv, q0, q1, q2⟩ := act02_cells hr hlt
        injection hv with hv _ hcc
        subst hv hcc
        obtain ⟨A2, c2, hv2⟩ := HS.out.2.1 _ (List.getElem_mem hlt)
        rw [hv2] at q2
        have hmx : (l[k]'hlt).l.length ≤ 9223372036854775807 := by have := HS.out.2.2 _ (List.getElem_mem hlt); unfold maxLen at this; exact this
        by_cases h100 : (l[k]'hlt).l.length ≤ 100
        · have HZ2 : Hid (∀ j a, j < k + 1 → l[j]? = some a → a.l.length ≤ 100) := Lib.hid (fun j a hj hja => by
            by_cases hjk : j = k
            · subst hjk; rw [List.getElem?_eq_getElem hlt] at hja; injection hja with hja; rw [← hja]; exact h100
            · exact HZ.out j a (by omega) hja)
          go_wp2_with fail
          go_round
          case rel => exact ⟨k + 1, by omega, by omega, by go_num, HZ2⟩
          case measure => simp [intOf]; omega
        · go_wp2_with fail
          go_ret
          exact ⟨rfl, rfl⟩
      · obtain rfl : k = 61 := by omega
        go_wp2_with fail
        go_ret
        simp; omega
    · obtain rfl : k = l.length := by omega
      have h60 : 60 < l.length := by
        rcases Nat.lt_or_ge 60 l.length with h | h
        · exact h
        · exfalso
          exact HS.out.1 ⟨h, fun a ha => by
            obtain ⟨j, hj⟩ := List.getElem?_of_mem ha
            exact HZ.out j a (List.getElem?_eq_some_iff.1 hj).1 hj⟩
      go_wp2_with fail
      go_ret
      simp; omega
theorem acts02_form {w : World} {l : List Act02} (h : ∀ a ∈ l, a.ok w) : ∀ a ∈ l, ∃ A c, a.v = .slice A a.l.length c := fun a ha => by
  obtain ⟨-, -, ⟨-, A, c, h, -⟩, -⟩ := h a ha
  exact ⟨A, c, h⟩
end Go.Proofs.Ytcgbafdagckgcaa
