/-
  Package praxinoscopekit: SameItems, OverItems; law 24: of.
-/
import Derived.Test.YtcgbafdagckgcaaOutbox
import Derived.Test.YtcgbafdagckgcaaSlice
namespace Go.Proofs.Ytcgbafdagckgcaa
open Go.RowKit Go.Mine

set_option maxRecDepth 100000 in
theorem SameItems_same (w : World) (va vb : Value) (l : List Item) (ha : Rd w 4 va l.length (l.flatMap Item.cells)) (hb : Rd w 4 vb l.length (l.flatMap Item.cells)) (hlen : l.length ≤ 1000000) :
    Calls Try.prog 25 #[va, vb] w fun e w' => e = .returned (.bool true) ∧ ∃ k, w' = w.drewN k := by
  obtain ⟨-, A, c, rfl, hc, hA⟩ := ha
  obtain ⟨-, B, d, rfl, hd, hB⟩ := hb
  have HA := Lib.hid hA
  have HB := Lib.hid hB
  clear hA hB
  go_enter Try.func25, Try.ntmps25
  go_wp2
  go_loopw [5, 6] (fun s i wr => ∃ k m : Nat, k ≤ l.length ∧ s = .bool true ∧ i = .int .i64 (k : Int) ∧ wr = w.drewN m) (fun _ i _ => l.length - (intOf i).toNat)
  case atStart => exact ⟨0, 0, by omega, by simp, rfl, rfl⟩
  case round =>
    obtain ⟨k, m, hk, rfl, rfl, rfl⟩ := hrel
    by_cases hlt : k < l.length
    · obtain ⟨g, off, rfl, hg⟩ := HA.out (by omega)
      obtain ⟨g', off', rfl, hg'⟩ := HB.out (by omega)
      have hx : ∀ j, j < 4 → (l.flatMap Item.cells)[k * 4 + j]? = ((l[k]).cells)[j]? := fun j hj => by
        rw [flat_get Item.len l _ j hj, List.getElem?_eq_getElem hlt]
        rfl
      have q0 : w.cell? ⟨g, off + k * 4, none⟩ = _ := hg _ _ (hx 0 (by omega))
      have q1 : w.cell? ⟨g, off + k * 4 + 1, none⟩ = _ := hg _ _ (hx 1 (by omega))
      have q2 : w.cell? ⟨g, off + k * 4 + 2, none⟩ = _ := hg _ _ (hx 2 (by omega))
      have q3 : w.cell? ⟨g, off + k * 4 + 3, none⟩ = _ := hg _ _ (hx 3 (by omega))
      have r0 : w.cell? ⟨g', off' + k * 4, none⟩ = _ := hg' _ _ (hx 0 (by omega))
      have r1 : w.cell? ⟨g', off' + k * 4 + 1, none⟩ = _ := hg' _ _ (hx 1 (by omega))
      have r2 : w.cell? ⟨g', off' + k * 4 + 2, none⟩ = _ := hg' _ _ (hx 2 (by omega))
      have r3 : w.cell? ⟨g', off' + k * 4 + 3, none⟩ = _ := hg' _ _ (hx 3 (by omega))
      clear hx hg hg'
      go_wp2_with fail
      go_quiet (fail)
      go_wp2_with fail
      go_roundw
      case rel => exact ⟨k + 1, _, by omega, rfl, by go_num, rfl⟩
      case measure => simp [intOf]; omega
    · obtain rfl : k = l.length := by omega
      go_wp2
      go_ret
      exact ⟨rfl, m, rfl⟩

set_option maxRecDepth 100000 in
theorem OverItems_any (w : World) (base : Nat) (v : Value) (n : Nat) (xs : List Value) (h : Sl w base 30 4 v n xs) (hlen : n ≤ 1000000) :
    Calls Try.prog 27 #[v] w fun e w' => e = .returned (.tuple #[]) ∧ OnlyIn v.ownBlock.toList w w' := by
  obtain ⟨A, c, rfl, hc⟩ := h.val
  go_enter Try.func27, Try.ntmps27
  go_wp2
  go_loopw [2] (fun i wr => ∃ k : Nat, k ≤ n ∧ i = .int .i64 (k : Int) ∧ OnlyIn (Value.slice A n c).ownBlock.toList w wr ∧ ∃ ys, Sl wr base 30 4 (.slice A n c) n ys) (fun i _ => n - (intOf i).toNat)
  case atStart => exact ⟨0, by omega, rfl, OnlyIn.refl _ _, xs, h⟩
  case round =>
    obtain ⟨k, hk, rfl, ht, ys, hs⟩ := hrel
    by_cases hlt : k < n
    · obtain ⟨g, off, cap, hv, hg1, hg2, hcap⟩ := hs.form (by omega)
      have hl := hs.1
      have hc' := fun j (hj : j < 4) => hs.cell_at hv (List.getElem?_eq_getElem (l := ys) (i := k * 4 + j) (by omega))
      have q0 : wr.cell? ⟨g, off + k * 4, none⟩ = _ := hc' 0 (by omega)
      have q1 : wr.cell? ⟨g, off + k * 4 + 1, none⟩ = _ := hc' 1 (by omega)
      have q2 : wr.cell? ⟨g, off + k * 4 + 2, none⟩ = _ := hc' 2 (by omega)
      have q3 : wr.cell? ⟨g, off + k * 4 + 3, none⟩ = _ := hc' 3 (by omega)
      have hf := hs.free_at hv
      have f0 := hf (off + k * 4)
      have f1 := hf (off + k * 4 + 1)
      have f2 := hf (off + k * 4 + 2)
      have f3 := hf (off + k * 4 + 3)
      clear hf hc'
      simp only [Value.slice.injEq] at hv
      obtain ⟨rfl, -, rfl⟩ := hv
      go_wp2_with fail
      have hS : ∀ p : Addr, p.block = g → p.block ∈ (Value.slice (some ⟨g, off, none⟩) n c).ownBlock.toList ∨ w.heap.size ≤ p.block := fun p hp => .inl (by simp [Value.ownBlock, hp])
      go_roundw
      case rel => exact ⟨k + 1, by omega, by go_num, (((ht.setCell (hS _ rfl) _).setCell (hS _ rfl) _).setCell (hS _ rfl) _).setCell (hS _ rfl) _, _, (((hs.stored rfl (k * 4) _).stored rfl (k * 4 + 1) _).stored rfl (k * 4 + 2) _).stored rfl (k * 4 + 3) _⟩
      case measure => simp [intOf]; omega
    · obtain rfl : k = n := by omega
      go_wp2
      go_end0
      exact ⟨rfl, ht⟩

def ofFrames (fs : List Int) : List Item := fs.map fun f => ⟨f, 0, 0, 0⟩

set_option maxRecDepth 100000 in
theorem Try.infoItem4 : (Try.prog.info? 30).map (fun i => (i.zero, i.size, i.bytes)) = some (some (.agg #[.int .i64 0, .int .i64 0, .int .i64 0, .int .i64 0]), 4, 32) := by kernel_rfl

set_option maxRecDepth 100000 in
theorem of_any (w : World) (v : Value) (fs : List Int) (h : Rd w 1 v fs.length (fs.map (Value.int .i64))) (hlen : fs.length ≤ 1000000) :
    Calls Try.prog 32 #[v] w fun e w' => ∃ v', e = .returned v' ∧ Sl w' w.heap.size 30 4 v' fs.length ((ofFrames fs).flatMap Item.cells) ∧ OnlyIn [] w w' := by
  obtain ⟨-, A, c, rfl, hc, hA⟩ := h
  have HA := Lib.hid hA
  clear hA
  obtain ⟨i0, hi0, hz0, hz1, hz2⟩ := info_parts Try.infoItem4
  go_enter Try.func32, Try.ntmps32
  go_wp2
  go_loopw [3, 4] (fun o i wr => ∃ k : Nat, k ≤ fs.length ∧ i = .int .i64 (k : Int) ∧ OnlyIn [] w wr ∧ Sl wr w.heap.size 30 4 o k ((ofFrames (fs.take k)).flatMap Item.cells)) (fun _ i _ => fs.length - (intOf i).toNat)
  case atStart => exact ⟨0, by omega, rfl, OnlyIn.refl _ _, Sl.nil _ _ _ _⟩
  case round =>
    rename_i o i wr
    obtain ⟨k, hk, rfl, ht, hs⟩ := hrel
    by_cases hlt : k < fs.length
    · obtain ⟨g, off, rfl, hg⟩ := HA.out (by omega)
      have q0 := ht.cell (hg k (.int .i64 fs[k]) (by simp [List.getElem?_eq_getElem hlt])) (by simp)
      have hbs : w.heap.size ≤ wr.heap.size := ht.size
      have he : (ofFrames (fs.take (k + 1))).flatMap Item.cells = (ofFrames (fs.take k)).flatMap Item.cells ++ Item.cells ⟨fs[k], 0, 0, 0⟩ := by
        rw [List.take_succ_eq_append_getElem hlt]
        simp only [ofFrames, List.map_append, List.flatMap_append, List.map_cons, List.map_nil, List.flatMap_cons, List.flatMap_nil, List.append_nil]
      have HE := Lib.hid he
      clear he
      obtain ⟨A2, c2, rfl, hc2⟩ := hs.val
      clear hg
      go_wp2_with (at_builtin; refine wpList_append_sl rfl _ _ 42 rfl w.heap.size 30 i0 _ 4 32 Try.underlying42 hi0 hz0 hz1 hz2 rfl (by decide) (.slice A2 k c2) k _ rfl (hs.alloc _) _ 1 (Item.cells ⟨fs[k], 0, 0, 0⟩) rfl (Rd.lit wr (Item.cells ⟨fs[k], 0, 0, 0⟩) 30 1 rfl) (by simp [Item.cells, Value.oneCell']) (by simp only [maxLen]; omega) (by omega) (by simp; omega) ?_; intro v' w2 hs' hg' hat')
      have ht2 : OnlyIn [] w w2 := (ht.alloc _).grown hg' (fun g hg => .inr (hs.own_lt g hg).1)
      go_roundw
      case rel => exact ⟨k + 1, by omega, by go_num, ht2, by rw [HE.out]; exact hs'⟩
      case measure => simp [intOf]; omega
    · obtain rfl : k = fs.length := by omega
      rw [List.take_of_length_le (Nat.le_refl _)] at hs
      go_wp2
      go_ret
      exact ⟨_, rfl, hs, ht⟩

end Go.Proofs.Ytcgbafdagckgcaa
