/-
  Package vector: base, code.
-/
import Derived.Test.YtheihohojmcbiaaVecSpec
import Derived.Test.YtheihohojmcbiaaTxts
import Derived.Test.YtheihohojmcbiaaTwoLists
import Derived.Test.YtheihohojmcbiaaPrefixGet
import Derived.Test.YtheihohojmcbiaaPrefixMake
import Derived.Test.YtheihohojmcbiaaRefMake03
import Derived.Test.YtheihohojmcbiaaKind
namespace Go.Mine
open Go.RowKit
theorem vbase_len {n : Nat} (h1 : 1 ≤ n) (h2 : n ≤ 16) : (vbase n).length ≤ 24 := by
  have h : ∀ m, m < 17 → (vbase m).length ≤ 24 := by decide
  exact h n (by omega)
theorem vtake {k : Nat} (hk : k < 32) : txtCells (vcodes.take (k + 1)) = txtCells (vcodes.take k) ++ [.string (str (vc ((k : Int) - 16)))] ∧ intCells (vnums.take (k + 1)) = intCells (vnums.take k) ++ [.int .i64 ((k : Int) - 16)] := by
  have h1 : vcodes[k]? = some (vc ((k : Int) - 16)) := by
    unfold vc
    rw [show ((k : Int) - 16 + 16).toNat = k by omega, List.getD_eq_getElem?_getD, List.getElem?_eq_getElem (show k < vcodes.length from hk)]
    rfl
  have h2 : ∀ k : Nat, k < 32 → vnums[k]? = some ((k : Int) - 16) := by decide
  constructor
  · rw [List.take_add_one, h1]; simp [txtCells]
  · rw [List.take_add_one, h2 k hk]; simp [intCells]
end Go.Mine
namespace Go.Proofs.Ytheihohojmcbiaa
open Go.RowKit Go.Mine

set_option maxRecDepth 100000 in
theorem vbase_any (w : World) (n : Int) (h1 : 1 ≤ n) (h2 : n ≤ 16) : Calls Try.prog 77 #[.int .i64 n] w fun e w' => e = .returned (.string (str (vbase n.toNat))) ∧ w = w' := by
  have i20 : ∀ (x y : ByteArray) (W : World), (Instr.index 110 (.agg #[.string x, .string y]) (.int .i64 0)).run Try.prog W = .ok (.string x) W := fun _ _ _ => by kernel_rfl
  have i21 : ∀ (x y : ByteArray) (W : World), (Instr.index 110 (.agg #[.string x, .string y]) (.int .i64 1)).run Try.prog W = .ok (.string y) W := fun _ _ _ => by kernel_rfl
  have i30 : ∀ (x y z : ByteArray) (W : World), (Instr.index 108 (.agg #[.string x, .string y, .string z]) (.int .i64 0)).run Try.prog W = .ok (.string x) W := fun _ _ _ _ => by kernel_rfl
  have i31 : ∀ (x y z : ByteArray) (W : World), (Instr.index 108 (.agg #[.string x, .string y, .string z]) (.int .i64 1)).run Try.prog W = .ok (.string y) W := fun _ _ _ _ => by kernel_rfl
  have i32 : ∀ (x y z : ByteArray) (W : World), (Instr.index 108 (.agg #[.string x, .string y, .string z]) (.int .i64 2)).run Try.prog W = .ok (.string z) W := fun _ _ _ _ => by kernel_rfl
  have i40 : ∀ (x y z v : ByteArray) (W : World), (Instr.index 109 (.agg #[.string x, .string y, .string z, .string v]) (.int .i64 0)).run Try.prog W = .ok (.string x) W := fun _ _ _ _ _ => by kernel_rfl
  have i41 : ∀ (x y z v : ByteArray) (W : World), (Instr.index 109 (.agg #[.string x, .string y, .string z, .string v]) (.int .i64 1)).run Try.prog W = .ok (.string y) W := fun _ _ _ _ _ => by kernel_rfl
  have i42 : ∀ (x y z v : ByteArray) (W : World), (Instr.index 109 (.agg #[.string x, .string y, .string z, .string v]) (.int .i64 2)).run Try.prog W = .ok (.string z) W := fun _ _ _ _ _ => by kernel_rfl
  have i43 : ∀ (x y z v : ByteArray) (W : World), (Instr.index 109 (.agg #[.string x, .string y, .string z, .string v]) (.int .i64 3)).run Try.prog W = .ok (.string v) W := fun _ _ _ _ _ => by kernel_rfl
  rcases (by omega : n = 1 ∨ n = 2 ∨ n = 3 ∨ n = 4 ∨ n = 5 ∨ n = 6 ∨ n = 7 ∨ n = 8 ∨ n = 9 ∨ n = 10 ∨ n = 11 ∨ n = 12 ∨ n = 13 ∨ n = 14 ∨ n = 15 ∨ n = 16) with rfl | rfl | rfl | rfl | rfl | rfl | rfl | rfl | rfl | rfl | rfl | rfl | rfl | rfl | rfl | rfl
  all_goals
    go_enter Try.func77, Try.ntmps77
    go_wp2_with fail
    go_ret
    exact ⟨rfl, rfl⟩

set_option maxRecDepth 100000 in
theorem vcode_any (w : World) (d : Int) (h1 : -16 ≤ d) (h2 : d ≤ 15) : Calls Try.prog 63 #[.int .i64 d] w fun e w' => e = .returned (.string (str (vc d))) ∧ w = w' := by
  have hsp := vc_split h1 h2
  by_cases h0 : d = 0
  · subst h0
    go_enter Try.func63, Try.ntmps63
    go_wp2_with fail
    go_ret
    exact ⟨rfl, rfl⟩
  · rw [if_neg h0] at hsp
    have z0 : (d == 0) = false := by simp; exact h0
    by_cases hn : d < 0
    · rw [if_pos hn] at hsp
      have hb := vbase_any w (-d) (by omega) (by omega)
      have hadd : ∀ W, (Op.stringOp .add (str (vbase (-d).toNat)) ⟨#[49]⟩).run Try.prog W = .ok (.string (str (vbase (-d).toNat ++ [49]))) W := fun W => run_add_txt W _ [49] (by have := vbase_len (n := (-d).toNat) (by omega) (by omega); simp; omega)
      rw [← hsp] at hadd
      obtain ⟨s, hs⟩ : ∃ s, str (vbase (-d).toNat) = s := ⟨_, rfl⟩
      rw [hs] at hb hadd
      clear hsp h0 hs
      go_enter Try.func63, Try.ntmps63
      go_wp2_with (go_at_call 77; refine hb.mono ?_; rintro e w1 ⟨rfl, rfl⟩)
      go_ret
      exact ⟨rfl, rfl⟩
    · rw [if_neg hn] at hsp
      have hb := vbase_any w d (by omega) (by omega)
      have hadd : ∀ W, (Op.stringOp .add (str (vbase d.toNat)) ⟨#[48]⟩).run Try.prog W = .ok (.string (str (vbase d.toNat ++ [48]))) W := fun W => run_add_txt W _ [48] (by have := vbase_len (n := d.toNat) (by omega) (by omega); simp; omega)
      rw [← hsp] at hadd
      obtain ⟨s, hs⟩ : ∃ s, str (vbase d.toNat) = s := ⟨_, rfl⟩
      rw [hs] at hb hadd
      clear hsp h0 hs
      go_enter Try.func63, Try.ntmps63
      go_wp2_with (go_at_call 77; refine hb.mono ?_; rintro e w1 ⟨rfl, rfl⟩)
      go_ret
      exact ⟨rfl, rfl⟩

set_option maxRecDepth 100000 in
set_option maxHeartbeats 2000000 in
theorem vtree_any (w : World) : Calls Try.prog 59 #[] w fun e w' => ∃ b v mb, e = .returned (.pointer (some ⟨b, 0, none⟩)) ∧ Tr w' w.heap.size b v mb 32 VT (told (vcodes.zip vnums)) 32 ∧ OnlyIn [] w w' := by
  obtain ⟨i0, hi0, hz0, hz1, hz2⟩ := info_parts Try.infoStr
  obtain ⟨j0, hj0, hy0, hy1, hy2⟩ := info_parts Try.infoIC
  go_enter Try.func59, Try.ntmps59
  go_wp2_with fail
  go_loopw [1, 2, 3] (fun cv nv d wr => ∃ k : Nat, k ≤ 32 ∧ d = .int .i64 ((k : Int) - 16) ∧ Sl wr w.heap.size 9 1 cv k (txtCells (vcodes.take k)) ∧ Sl wr w.heap.size 3 1 nv k (intCells (vnums.take k)) ∧ OnlyIn [] w wr) (fun _ _ d _ => (16 - intOf d).toNat)
  case atStart => exact ⟨0, by omega, rfl, Sl.nil _ _ _ _, Sl.nil _ _ _ _, OnlyIn.refl _ _⟩
  case round =>
    obtain ⟨k, hk, rfl, hs1, hs2, hto⟩ := hrel
    obtain ⟨A1, c1, rfl, _⟩ := hs1.val
    obtain ⟨A2, c2, rfl, _⟩ := hs2.val
    by_cases hlt : k < 32
    · have hcd := vcode_any wr ((k : Int) - 16) (by omega) (by omega)
      have htk := vtake hlt
      obtain ⟨s, hs⟩ : ∃ s, str (vc ((k : Int) - 16)) = s := ⟨_, rfl⟩
      rw [hs] at hcd htk
      have HTK := Lib.hid htk
      have hs1a := hs1.alloc (.cells #[.string s] 9)
      have hs2a := hs2.alloc (.cells #[.string s] 9)
      have hrd := Rd.lit (size := 1) wr [.string s] 9 1 rfl
      have hne : ∀ g, (Value.slice A2 k c2).ownBlock = some g → some g ≠ (Value.slice A1 k c1).ownBlock := Sl.ne_own hs2a hs1a (by decide)
      have hs1o : ∀ g, (Value.slice A1 k c1).ownBlock = some g → w.heap.size ≤ g := fun g hg => (hs1.own_lt g hg).1
      have HT := Lib.hid hto
      have hbs := hto.size
      have dlt : decide ((k : Int) - 16 < 16) = true := decide_eq_true (by omega)
      have tok : True := trivial
      clear hs1 hs2 hs htk hto
      go_wp2_with (first | (go_at_call 63; refine hcd.mono ?_; rintro e w0 ⟨rfl, rfl⟩) | (at_builtin; have _t := tok; refine wpList_append_sl rfl _ _ 75 rfl w.heap.size 9 i0 _ 1 16 Try.underlying75 hi0 hz0 hz1 hz2 rfl (by decide) (.slice A1 k c1) _ _ rfl hs1a _ 1 _ rfl hrd (by simp [Value.oneCell']) (by simp only [maxLen]; omega) (by omega) (by simp; omega) ?_; intro v1 w1 hsA hgA hatA; have hs2b := (hs2a.grown hgA hne).alloc (.cells #[.int .i64 ((k : Int) - 16)] 3); have hrd2 := Rd.lit (size := 1) w1 [.int .i64 ((k : Int) - 16)] 3 1 rfl; clear tok) | (at_builtin; refine wpList_append_sl rfl _ _ 41 rfl w.heap.size 3 j0 _ 1 8 Try.underlying41 hj0 hy0 hy1 hy2 rfl (by decide) (.slice A2 k c2) _ _ rfl hs2b _ 1 _ rfl hrd2 (by simp [Value.oneCell']) (by simp only [maxLen]; omega) (by omega) (by have hq := hgA.size; simp only [World.size_alloc] at hq ⊢; omega) ?_; intro v2 w2 hsB hgB hatB))
      go_roundw
      case rel => exact ⟨k + 1, by omega, by go_num, by rw [HTK.out.1]; exact (hsA.alloc _).grown hgB (fun g hg => Sl.ne_own (hsA.alloc _) hs2b (by decide) g hg), by rw [HTK.out.2]; exact hsB, (((HT.out.alloc _).grown hgA (fun g hg => .inr (hs1o g hg))).alloc _).grown hgB (fun g hg => .inr (hs2b.own_lt g hg).1)⟩
      case measure => simp [intOf]; omega
    · obtain rfl : k = 32 := by omega
      have hmk := Make_any wr _ _ vcodes vnums (Rd.of_sl hs1) (Rd.of_sl hs2) (by decide) (by decide) (by decide) (by decide)
      have hmk2 := hmk.mono (R' := fun e w' => ∃ b v mb, e = .returned (.tuple #[.pointer (some ⟨b, 0, none⟩), .int .i64 0]) ∧ Tr w' wr.heap.size b v mb 32 VT (told (vcodes.zip vnums)) 32 ∧ OnlyIn [] wr w') (fun e w' ⟨ho, h⟩ => by
        rcases h with ⟨hbad, -⟩ | ⟨-, ⟨hno, -⟩ | ⟨t', b, v, mb, hs, he, hT⟩⟩
        · exfalso
          rcases hbad with hbad | hbad | hbad | hbad
          · exact hbad (by decide)
          · exact absurd hbad (by decide)
          · exact absurd hbad (by decide)
          · rw [vcodes_ok] at hbad; cases hbad
        · rw [vbuild] at hno; cases hno
        · rw [vbuild] at hs
          injection hs with hs
          subst hs
          exact ⟨b, v, mb, he, hT, ho⟩)
      have HT := Lib.hid hto
      clear hmk hs1 hs2 hto
      go_wp2_with (go_at_call 67; refine hmk2.mono ?_; rintro e w1 ⟨b, v, mb, rfl, hT, ht1⟩)
      go_ret
      exact ⟨b, v, mb, rfl, hT.lower HT.out.size, HT.out.trans ht1⟩
end Go.Proofs.Ytheihohojmcbiaa
