/-
  Law 28: frames, isVictim, same; PressTells, PressEnough: the walks.
-/
import Derived.Test.YtmbnmhcfafgnaaaKnown28
import Derived.Test.YtmbnmhcfafgnaaaOpen28
import Derived.Test.YtmbnmhcfafgnaaaKit
namespace Go.Mine
open Go.RowKit
/-- How many frames a session holds. -/
def framesF (l : List Holder) (id : Int) : Int := match l.find? (fun h => h.id == id) with | some h => h.fr | none => -1
theorem framesF_hit {l : List Holder} (hO : OkH l) {h : Holder} (hm : h ∈ l) : framesF l h.id = h.fr := by
  unfold framesF
  cases hf : l.find? (fun x => x.id == h.id) with
  | none =>
    rw [List.find?_eq_none] at hf
    exact absurd (by simp) (hf h hm)
  | some x =>
    have h1 := List.find?_some hf
    have h2 := List.mem_of_find?_eq_some hf
    simp only [beq_iff_eq] at h1
    rw [hO.id_inj h2 hm h1]
theorem framesF_take {l : List Holder} {id : Int} {k : Nat} (hk : k < l.length) (h0 : ∀ x ∈ l.take k, x.id ≠ id) (h : (l[k]'hk).id = id) : framesF l id = (l[k]'hk).fr := by
  unfold framesF
  have : l.find? (fun h => h.id == id) = some (l[k]'hk) := by
    rw [List.find?_eq_some_iff_getElem]
    refine ⟨by simp [h], k, hk, rfl, fun j hj => ?_⟩
    simp only [Bool.not_eq_true', beq_eq_false_iff_ne, ne_eq]
    exact h0 _ (List.mem_take_iff_getElem.2 ⟨j, by omega, rfl⟩)
  rw [this]
theorem framesF_none {l : List Holder} {id : Int} (h0 : ∀ x ∈ l, x.id ≠ id) : framesF l id = -1 := by
  unfold framesF
  have : l.find? (fun h => h.id == id) = none := by
    rw [List.find?_eq_none]
    intro x hx
    simp [h0 x hx]
  rw [this]
end Go.Mine
namespace Go.Proofs.Ytmbnmhcfafgnaaa
open Go.RowKit Go.Mine

set_option maxRecDepth 100000 in
set_option maxHeartbeats 2000000 in
theorem frames_any (W : World) (A : Option Addr) (n c : Nat) (l : List Holder) (h : Rd W 2 (.slice A n c) n (hcs l)) (hn : l.length = n) (hnc : n ≤ c) (hb : n ≤ 1000000000) (id : Int) :
    Calls Try.prog 29 #[.slice A n c, .int .i64 id] W fun e w' => e = .returned (.int .i64 (framesF l id)) ∧ W = w' := by
  have HR := Lib.hid (And.intro h hn)
  clear h hn
  go_enter Try.func29, Try.ntmps29
  go_wp2_with fail
  go_loopw [5] (fun i wr => ∃ k : Nat, k ≤ n ∧ i = .int .i64 (k : Int) ∧ Hid (∀ x ∈ l.take k, x.id ≠ id) ∧ W = wr) (fun i _ => n - (intOf i).toNat)
  case atStart => exact ⟨0, by omega, rfl, Lib.hid (by simp), rfl⟩
  case round =>
    obtain ⟨k, hk, rfl, HX, rfl⟩ := hrel
    by_cases hlt : k < n
    · have hkl : k < l.length := by rw [HR.out.2]; exact hlt
      have hft := framesF_take (id := id) hkl HX.out
      have htk := take_snoc l hkl
      obtain ⟨x, hx⟩ : ∃ x, l[k]'hkl = x := ⟨_, rfl⟩
      rw [hx] at hft htk
      obtain ⟨g, off, rfl, a0, a1⟩ := rd_hold HR.out.1 HR.out.2 (k := k) (x := x) (by rw [List.getElem?_eq_getElem hkl, hx])
      obtain ⟨xi, hxi⟩ : ∃ z, x.id = z := ⟨_, rfl⟩
      obtain ⟨xf, hxf⟩ : ∃ z, x.fr = z := ⟨_, rfl⟩
      rw [hxi] at a0 hft
      rw [hxf] at a1 hft
      by_cases he : xi = id
      · subst he
        have b : (xi == xi) = true := by simp
        have HF := Lib.hid (hft rfl)
        clear hft htk hx hxi hxf hkl
        go_wp2_with fail
        go_ret
        exact ⟨by rw [HF.out]; rfl, rfl⟩
      · have b : (xi == id) = false := by simpa using he
        have HM := Lib.hid (show ∀ y ∈ l.take (k + 1), y.id ≠ id by
          rw [htk]
          intro y hy
          rcases List.mem_append.1 hy with hy | hy
          · exact HX.out y hy
          · rw [List.mem_singleton] at hy; subst hy; rw [hxi]; exact he)
        clear hft htk hx hxi hxf hkl he
        go_wp2_with fail
        go_roundw
        case rel => exact ⟨k + 1, by omega, by go_num, HM, by trivial⟩
        case measure => simp [intOf]; omega
    · obtain rfl : n = k := by omega
      have h0 := HX.out
      rw [List.take_of_length_le (by rw [HR.out.2]; exact Nat.le_refl _)] at h0
      have HF := Lib.hid (framesF_none h0)
      clear h0
      go_wp2_with fail
      go_ret
      exact ⟨by rw [HF.out]; rfl, rfl⟩

set_option maxRecDepth 100000 in
theorem isVictim_yes (W : World) (A : Option Addr) (n c : Nat) (l : List Holder) (h : Rd W 2 (.slice A n c) n (hcs l)) (hn : l.length = n) (hnc : n ≤ c) (id : Int) (hy : victimF l = (id, 0)) :
    Calls Try.prog 30 #[.slice A n c, .int .i64 id] W fun e w' => e = .returned (.bool true) ∧ OnlyIn [] W w' := by
  have hv := hVictim_any W A n c l h hn hnc
  rw [hy] at hv
  simp only at hv
  have b1 : (id == id) = true := by simp
  clear hy h hn
  go_enter Try.func30, Try.ntmps30
  go_wp2_with (go_at_call 14; refine hv.mono ?_; rintro e w2 ⟨rfl, ht2⟩)
  go_ret
  exact ⟨rfl, ht2⟩

set_option maxRecDepth 100000 in
theorem same_yes (W : World) (A B : Option Addr) (n c d : Nat) (l : List Holder) (h : Rd W 2 (.slice A n c) n (hcs l)) (h2 : Rd W 2 (.slice B n d) n (hcs l)) (hn : l.length = n) (hnc : n ≤ c) (hnd : n ≤ d) (hb : n ≤ 1000000000) :
    Calls Try.prog 24 #[.slice A n c, .slice B n d] W fun e w' => e = .returned (.bool true) ∧ OnlyIn [] W w' := by
  have HR := Lib.hid (And.intro h (And.intro h2 hn))
  have bn : ((n : Int) != (n : Int)) = false := by simp
  clear h h2 hn
  go_enter Try.func24, Try.ntmps24
  go_wp2_with fail
  go_loopw [5] (fun i wr => ∃ k : Nat, k ≤ n ∧ i = .int .i64 (k : Int) ∧ OnlyIn [] W wr) (fun i _ => n - (intOf i).toNat)
  case atStart => exact ⟨0, by omega, rfl, OnlyIn.refl _ _⟩
  case round =>
    obtain ⟨k, hk, rfl, hto⟩ := hrel
    by_cases hlt : k < n
    · have hkl : k < l.length := by rw [HR.out.2.2]; exact hlt
      obtain ⟨x, hx⟩ : ∃ x, l[k]'hkl = x := ⟨_, rfl⟩
      obtain ⟨g, off, rfl, a0, a1⟩ := rd_hold (HR.out.1.cells (w' := wr) fun p u hp => hto.cell hp (by simp)) HR.out.2.2 (k := k) (x := x) (by rw [List.getElem?_eq_getElem hkl, hx])
      obtain ⟨g', off', rfl, b0, b1⟩ := rd_hold (HR.out.2.1.cells (w' := wr) fun p u hp => hto.cell hp (by simp)) HR.out.2.2 (k := k) (x := x) (by rw [List.getElem?_eq_getElem hkl, hx])
      have HT := Lib.hid hto
      clear hto hx hkl
      go_wp2_with fail
      go_quiet (fail)
      go_wp2_with fail
      go_roundw
      case rel => exact ⟨k + 1, by omega, by go_num, HT.out.drewN _⟩
      case measure => simp [intOf]; omega
    · obtain rfl : n = k := by omega
      have HT := Lib.hid hto
      clear hto
      go_wp2_with fail
      go_ret
      exact ⟨rfl, HT.out⟩
end Go.Proofs.Ytmbnmhcfafgnaaa
