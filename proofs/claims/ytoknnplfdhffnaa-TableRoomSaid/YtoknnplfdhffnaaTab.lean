/-
  Package table: what its functions do, but for going through the live ones.
-/
import Derived.Test.YtoknnplfdhffnaaTabLaw
import Derived.Test.YtoknnplfdhffnaaRows
import Derived.StillTailTactics
import Derived.Deep.RegionWith
import Derived.Deep.RegionHeld3
namespace Go.Proofs.Ytoknnplfdhffnaa
open Go.RowKit Go.Mine

abbrev TbAt (w : World) (b mb n N : Nat) (cs : List Int) : Prop := TabAt Try.prog 3 48 w b mb n N cs
/-- No table. -/
def NoTab (w : World) (p : Value) : Prop := p = .pointer none ∨ ∃ b, p = .pointer (some ⟨b, 0, none⟩) ∧ Blk w b 48 [.int .i64 0, .int .i64 0, .map none]
theorem NoTab.only {w w' : World} {p : Value} (h : NoTab w p) (ht : OnlyIn [] w w') : NoTab w' p := by
  rcases h with h | ⟨b, h1, h2⟩
  · exact .inl h
  · exact .inr ⟨b, h1, h2.only ht (by simp)⟩

section
variable {b mb n N : Nat} {cs : List Int}
set_option maxRecDepth 100000 in
theorem tnone_no (w : World) (h : TbAt w b mb n N cs) : Calls Try.prog 25 #[.pointer (some ⟨b, 0, none⟩)] w fun e w' => e = .returned (.bool false) ∧ w = w' := by
  have c0 := h.blk.cell (i := 0) rfl
  have hp := h.pos
  have ht := h.top
  have hd : ((N : Int) == 0) = false := by simp; omega
  clear h
  go_enter Try.func25, Try.ntmps25
  go_wp2_with fail
  go_ret
  exact ⟨rfl, rfl⟩
set_option maxRecDepth 100000 in
theorem tnone_yes (w : World) (p : Value) (h : NoTab w p) : Calls Try.prog 25 #[p] w fun e w' => e = .returned (.bool true) ∧ w = w' := by
  rcases h with rfl | ⟨b, rfl, hb⟩
  · go_enter Try.func25, Try.ntmps25
    go_wp2_with fail
    go_ret
    exact ⟨rfl, rfl⟩
  · have c0 := hb.cell (i := 0) rfl
    go_enter Try.func25, Try.ntmps25
    go_wp2_with fail
    go_ret
    exact ⟨rfl, rfl⟩
set_option maxRecDepth 100000 in
theorem tLast_any (w : World) (h : TbAt w b mb n N cs) : Calls Try.prog 13 #[.pointer (some ⟨b, 0, none⟩)] w fun e w' => e = .returned (.int .i64 (cs.length : Int)) ∧ w = w' := by
  have hn := tnone_no w h
  have c1 := h.blk.cell (i := 1) rfl
  clear h
  go_enter Try.func13, Try.ntmps13
  go_wp2_with (go_at_call 25; refine hn.mono ?_; rintro e w' ⟨rfl, rfl⟩)
  go_ret
  exact ⟨rfl, rfl⟩
set_option maxRecDepth 100000 in
theorem tCause_any (w : World) (h : TbAt w b mb n N cs) (x : Int) (hx : -9223372036854775808 ≤ x ∧ x ≤ 9223372036854775807) :
    Calls Try.prog 22 #[.pointer (some ⟨b, 0, none⟩), .int .i64 x] w fun e w' => e = .returned (.tuple #[.int .i64 (causeA cs x).1, .int .i64 (causeA cs x).2]) ∧ OnlyIn [] w w' := by
  have hn := tnone_no w h
  have c2 := h.blk.cell (i := 2) rfl
  have hlk := h.map.look (t := 46) Try.underlying3 Try.underlying46 (by kernel_rfl) x hx
  clear h
  unfold causeA
  cases hf : causeOf cs x with
  | none =>
    rw [hf] at hlk
    simp only [Option.getD, Option.isSome] at hlk
    go_enter Try.func22, Try.ntmps22
    go_wp2_with (go_at_call 25; refine hn.mono ?_; rintro e w' ⟨rfl, rfl⟩)
    go_ret2
    exact ⟨rfl, by (repeat (first | (with_reducible assumption) | (with_reducible exact OnlyIn.refl _ _) | (with_reducible refine OnlyIn.setCell ?_ (by first | simp | (simp; omega)) _) | (with_reducible refine OnlyIn.drewN ?_ _) | (with_reducible refine OnlyIn.drew ?_) | (with_reducible refine OnlyIn.alloc ?_ _)))⟩
  | some c =>
    rw [hf] at hlk
    simp only [Option.getD, Option.isSome] at hlk
    go_enter Try.func22, Try.ntmps22
    go_wp2_with (go_at_call 25; refine hn.mono ?_; rintro e w' ⟨rfl, rfl⟩)
    go_ret2
    exact ⟨rfl, by (repeat (first | (with_reducible assumption) | (with_reducible exact OnlyIn.refl _ _) | (with_reducible refine OnlyIn.setCell ?_ (by first | simp | (simp; omega)) _) | (with_reducible refine OnlyIn.drewN ?_ _) | (with_reducible refine OnlyIn.drew ?_) | (with_reducible refine OnlyIn.alloc ?_ _)))⟩
set_option maxRecDepth 100000 in
theorem live_any (w : World) : Calls Try.prog 26 #[.pointer (some ⟨b, 0, none⟩)] w fun e w' => e = .returned (.func (.func 30) #[] #[.pointer (some ⟨w.heap.size, 0, none⟩)]) ∧ w.alloc (.cells #[.pointer (some ⟨b, 0, none⟩)] 25) = w' := by
  have hmf : ∀ (fn : Fn) (first cap : Array Value) (w : World), (Instr.makeFunc fn first cap).run Try.prog w = .ok (.func fn first cap) w := fun _ _ _ _ => rfl
  go_enter Try.func26, Try.ntmps26
  go_wp2
  go_ret
  exact ⟨rfl, rfl⟩
set_option maxRecDepth 100000 in
theorem tNew_bad (w : World) (x : Int) (h : x < 1 ∨ 64 < x) : Calls Try.prog 9 #[.int .i64 x] w fun e w' => e = .returned (.tuple #[.pointer none, .int .i64 3]) ∧ w = w' := by
  by_cases h1 : x < 1
  · go_enter Try.func9, Try.ntmps9
    go_wp2
    go_ret2
    exact ⟨rfl, rfl⟩
  · have h2 : 64 < x := by omega
    go_enter Try.func9, Try.ntmps9
    go_wp2
    go_ret2
    exact ⟨rfl, rfl⟩
set_option maxRecDepth 100000 in
theorem tNew_ok (w : World) (h1 : 1 ≤ N) (h2 : N ≤ 64) : Calls Try.prog 9 #[.int .i64 (N : Int)] w fun e w' => ∃ b mb, e = .returned (.tuple #[.pointer (some ⟨b, 0, none⟩), .int .i64 0]) ∧ TbAt w' b mb 0 N [] ∧ OnlyIn [] w w' ∧ w.heap.size ≤ b ∧ w.heap.size ≤ mb := by
  have hmm := @run_makeMap Try.prog
  go_enter Try.func9, Try.ntmps9
  go_wp2
  go_ret2
  have hB := Blk.new (w.alloc (.map #[] 0)) 48 [.int .i64 (N : Int), .int .i64 0, .map (some w.heap.size)]
  have hM := (MapI.made w Try.prog 3).alloc (.cells #[.int .i64 (N : Int), .int .i64 0, .map (some w.heap.size)] 48)
  simp only [World.size_alloc] at hB
  refine ⟨w.heap.size + 1, w.heap.size, rfl, ⟨hB, hM.ext fun x _ => ?_, h1, h2, by simp, by omega⟩, by (repeat (first | (with_reducible assumption) | (with_reducible exact OnlyIn.refl _ _) | (with_reducible refine OnlyIn.setCell ?_ (by first | simp | (simp; omega)) _) | (with_reducible refine OnlyIn.drewN ?_ _) | (with_reducible refine OnlyIn.drew ?_) | (with_reducible refine OnlyIn.alloc ?_ _))), by omega, Nat.le_refl _⟩
  unfold causeOf
  rw [if_neg (by simp; omega)]
end
end Go.Proofs.Ytoknnplfdhffnaa
