/-
  The reference for layer 3: Make.
-/
import Derived.Test.YtheihohojmcbiaaRef03
import Derived.Test.YtheihohojmcbiaaKitCopy
namespace Go.Mine
open Go.RowKit
/-- One text begins with another. -/
def Clash (cs : List (List UInt8)) : Prop := ∃ i k, i < cs.length ∧ k < cs.length ∧ i ≠ k ∧ (cs.getD k []).isPrefixOf (cs.getD i []) = true
end Go.Mine
namespace Go.Proofs.Ytheihohojmcbiaa
open Go.RowKit Go.Mine

theorem Try.infoStr : (Try.prog.info? 9).map (fun i => (i.zero, i.size, i.bytes)) = some (some (.string ByteArray.empty), 1, 16) := by kernel_rfl

/-- The reference's tree. -/
structure RT (w : World) (base b : Nat) (v u : Value) (cs : List (List UInt8)) (ns : List Int) : Prop where
  blk : Blk w b 96 [v, u]
  sc : Sl w base 9 1 v cs.length (txtCells cs)
  sn : Sl w base 3 1 u ns.length (intCells ns)
  bb : base ≤ b
theorem RT.only {w w' : World} {base b : Nat} {v u : Value} {cs : List (List UInt8)} {ns : List Int} {S : List Nat} (h : RT w base b v u cs ns) (ht : OnlyIn S w w') (hS : ∀ k ∈ S, k < base) : RT w' base b v u cs ns :=
  ⟨h.blk.only ht (fun hm => by have := hS _ hm; have := h.bb; omega), h.sc.only ht (fun g hg hm => by have := hS _ hm; have := (h.sc.own_lt g hg).1; omega), h.sn.only ht (fun g hg hm => by have := hS _ hm; have := (h.sn.own_lt g hg).1; omega), h.bb⟩

/-- What the reference's Make leaves. -/
def RMakeEnd (cs : List (List UInt8)) (ns : List Int) (w : World) (e : Ending) (w' : World) : Prop :=
  OnlyIn [] w w' ∧
    (((cs.length ≠ ns.length ∨ cs.length = 0 ∨ 300 < cs.length ∨ cs.all codeB = false) ∧ e = .returned (.tuple #[.pointer none, .int .i64 2])) ∨
     ((cs.length = ns.length ∧ 0 < cs.length ∧ cs.length ≤ 300 ∧ cs.all codeB = true) ∧
      ((Clash cs ∧ e = .returned (.tuple #[.pointer none, .int .i64 14])) ∨
       (¬ Clash cs ∧ ∃ b v u, e = .returned (.tuple #[.pointer (some ⟨b, 0, none⟩), .int .i64 0]) ∧ RT w' w.heap.size b v u cs ns))))

set_option maxRecDepth 100000 in
set_option maxHeartbeats 2000000 in
theorem rMake_any (w : World) (cv nv : Value) (cs : List (List UInt8)) (ns : List Int) (hc : Rd w 1 cv cs.length (txtCells cs)) (hn : Rd w 1 nv ns.length (intCells ns)) (hs : ∀ s ∈ cs, s.length ≤ 9223372036854775807) (hcl : cs.length ≤ 9223372036854775807) (hnl : ns.length ≤ 9223372036854775807) :
    Calls Try.prog 60 #[cv, nv] w fun e w' => RMakeEnd cs ns w e w' := by
  have hc0 := hc
  have hn0 := hn
  obtain ⟨-, A, c, rfl, hcA, hA⟩ := hc
  obtain ⟨-, B, d, rfl, hdB, hB⟩ := hn
  obtain ⟨N, hN⟩ : ∃ N, cs.length = N := ⟨_, rfl⟩
  obtain ⟨M, hM⟩ : ∃ M, ns.length = M := ⟨_, rfl⟩
  rw [hN] at hcA hA hcl ⊢
  rw [hM] at hdB hB hnl ⊢
  have HL := Lib.hid (And.intro hN (And.intro hM hs))
  have HRD := Lib.hid (And.intro hc0 hn0)
  clear hs hN hM hc0 hn0
  by_cases h1 : N = M
  · by_cases h2 : N = 0
    · have hend : ∀ e w', e = .returned (.tuple #[.pointer none, .int .i64 2]) → w = w' → RMakeEnd cs ns w e w' := by
        rintro e w' rfl rfl
        exact ⟨OnlyIn.refl _ _, .inl ⟨.inr (.inl (by rw [HL.out.1]; exact h2)), rfl⟩⟩
      have HE := Lib.hid hend
      subst h1
      subst h2
      clear hA hB hend
      go_enter Try.func60, Try.ntmps60
      go_wp2_with fail
      go_ret2
      exact HE.out _ _ rfl rfl
    · subst h1
      have z0 : ((N : Int) == 0) = false := by simp; omega
      by_cases h3 : 300 < N
      · have hend : ∀ e w', e = .returned (.tuple #[.pointer none, .int .i64 2]) → w = w' → RMakeEnd cs ns w e w' := by
          rintro e w' rfl rfl
          exact ⟨OnlyIn.refl _ _, .inl ⟨.inr (.inr (.inl (by rw [HL.out.1]; exact h3))), rfl⟩⟩
        have HE := Lib.hid hend
        have z3 : decide ((300 : Int) < (N : Int)) = true := decide_eq_true (by omega)
        clear hA hB hend
        go_enter Try.func60, Try.ntmps60
        go_wp2_with fail
        go_ret2
        exact HE.out _ _ rfl rfl
      · have z3 : decide ((300 : Int) < (N : Int)) = false := decide_eq_false (by omega)
        obtain ⟨g, off, rfl, hcell⟩ := hA (by omega)
        have hget : ∀ k, k < N → w.cell? ⟨g, off + k, none⟩ = some (.string (str (cs.getD k []))) := fun k hk => by
          have hkl : k < cs.length := by rw [HL.out.1]; exact hk
          rw [List.getD_eq_getElem?_getD, List.getElem?_eq_getElem hkl]
          exact hcell k _ (txtCells_get hkl)
        have hlen : ∀ k, k < N → (cs.getD k []).length ≤ 9223372036854775807 := fun k hk => by
          have hkl : k < cs.length := by rw [HL.out.1]; exact hk
          rw [List.getD_eq_getElem?_getD, List.getElem?_eq_getElem hkl]
          exact HL.out.2.2 _ (List.getElem_mem hkl)
        have HG := Lib.hid (And.intro hget hlen)
        have H23 := Lib.hid (And.intro h2 h3)
        have hmix := Try.mixed
        clear hA hB hcell hget hlen
        go_enter Try.func60, Try.ntmps60
        go_wp2_with fail
        go_loop [6] (fun i => ∃ k : Nat, k ≤ N ∧ i = .int .i64 (k : Int) ∧ Hid (∀ j, j < k → codeB (cs.getD j []) = true)) (fun i => N - (intOf i).toNat)
        case atStart => exact ⟨0, by omega, rfl, Lib.hid (fun j hj => absurd hj (by omega))⟩
        case round =>
          obtain ⟨k, hk, rfl, HZ⟩ := hrel
          by_cases hlt : k < N
          · have c1 := HG.out.1 k hlt
            have hcode := rcode_any w (cs.getD k []) (HG.out.2 k hlt)
            obtain ⟨s, hsk⟩ : ∃ s, cs.getD k [] = s := ⟨_, rfl⟩
            rw [hsk] at c1 hcode
            by_cases hcs : codeB s = true
            · have HZ2 : Hid (∀ j, j < k + 1 → codeB (cs.getD j []) = true) := Lib.hid (fun j hj => by
                by_cases hjk : j = k
                · subst hjk; rw [hsk]; exact hcs
                · exact HZ.out j (by omega))
              rw [hcs] at hcode
              clear hcs hsk
              go_wp2_with (go_at_call 76; refine hcode.mono ?_; rintro e w1 ⟨rfl, rfl⟩)
              go_round
              case rel => exact ⟨k + 1, by omega, by go_num, HZ2⟩
              case measure => simp [intOf]; omega
            · have hcs' : codeB s = false := by simpa using hcs
              have hall : cs.all codeB = false := by
                rw [List.all_eq_false]
                have hkl : k < cs.length := by rw [HL.out.1]; exact hlt
                refine ⟨s, ?_, hcs⟩
                rw [← hsk, List.getD_eq_getElem?_getD, List.getElem?_eq_getElem hkl]
                exact List.getElem_mem hkl
              have HALL := Lib.hid hall
              rw [hcs'] at hcode
              clear hcs hsk hcs' hall
              go_wp2_with (go_at_call 76; refine hcode.mono ?_; rintro e w1 ⟨rfl, rfl⟩)
              go_ret2
              exact (show RMakeEnd cs ns w (.returned (.tuple #[.pointer none, .int .i64 2])) _ from ⟨OnlyIn.refl _ _, .inl ⟨.inr (.inr (.inr HALL.out)), rfl⟩⟩)
          · obtain rfl : k = N := by omega
            have hall : cs.all codeB = true := by
              rw [List.all_eq_true]
              intro s hs
              obtain ⟨j, hj⟩ := List.getElem?_of_mem hs
              have hjl := (List.getElem?_eq_some_iff.1 hj).1
              have := HZ.out j (by have := HL.out.1; omega)
              rw [List.getD_eq_getElem?_getD, hj] at this
              exact this
            have HALL := Lib.hid hall
            clear hall HZ
            go_wp2_with fail
            go_loopw [7, 8] (fun i _ wr => ∃ a : Nat, a ≤ k ∧ i = .int .i64 (a : Int) ∧ Hid (∀ i' b, i' < a → b < k → i' ≠ b → (cs.getD b []).isPrefixOf (cs.getD i' []) = false) ∧ OnlyIn [] w wr) (fun i _ _ => k - (intOf i).toNat)
            case atStart => exact ⟨0, by omega, rfl, Lib.hid (fun j b hj => absurd hj (by omega)), OnlyIn.refl _ _⟩
            case round =>
              obtain ⟨a, ha, rfl, HZ, hto⟩ := hrel
              by_cases hla : a < k
              · have ca := HG.out.1 a hla
                obtain ⟨sa, hsa⟩ : ∃ sa, cs.getD a [] = sa := ⟨_, rfl⟩
                rw [hsa] at ca
                have hla24 := HG.out.2 a hla
                rw [hsa] at hla24
                have HSA := Lib.hid hsa
                clear hsa
                go_wp2_with fail
                go_loopw [8] (fun i wr2 => ∃ b : Nat, b ≤ k ∧ i = .int .i64 (b : Int) ∧ Hid (∀ b', b' < b → a ≠ b' → (cs.getD b' []).isPrefixOf sa = false) ∧ OnlyIn [] w wr2) (fun i _ => k - (intOf i).toNat)
                case atStart => exact ⟨0, by omega, rfl, Lib.hid (fun b hb => absurd hb (by omega)), hto⟩
                case round =>
                  clear hto
                  obtain ⟨b, hb, rfl, HY, hto⟩ := hrel
                  by_cases hlb : b < k
                  · have da := hto.cell ca (by simp)
                    by_cases hab : a = b
                    · subst hab
                      have hz : ((a : Int) != (a : Int)) = false := by simp
                      have HY2 : Hid (∀ b', b' < a + 1 → a ≠ b' → (cs.getD b' []).isPrefixOf sa = false) := Lib.hid (fun b' h1 h2 => HY.out b' (by omega) h2)
                      have HT := Lib.hid hto
                      clear hto HY
                      go_wp2_with fail
                      go_quiet (fail)
                      go_wp2_with fail
                      go_roundw
                      case rel => exact ⟨a + 1, by omega, by go_num, HY2, HT.out.drewN _⟩
                      case measure => simp [intOf]; omega
                    · have hz : ((a : Int) != (b : Int)) = true := by simp; omega
                      have cb := HG.out.1 b hlb
                      have hlb24 := HG.out.2 b hlb
                      obtain ⟨sb, hsb⟩ : ∃ sb, cs.getD b [] = sb := ⟨_, rfl⟩
                      rw [hsb] at cb hlb24
                      have db := hto.cell cb (by simp)
                      have hbeg := fun W => rbegins_any W sa sb hla24 hlb24
                      by_cases hp : sb.isPrefixOf sa = true
                      · have hclash : Clash cs := ⟨a, b, by rw [HL.out.1]; exact hla, by rw [HL.out.1]; exact hlb, hab, by rw [hsb, HSA.out]; exact hp⟩
                        rw [hp] at hbeg
                        have HT := Lib.hid (And.intro hto hclash)
                        clear hto HY hclash hp hsb hab
                        go_wp2_with fail
                        (refine Go.Mine.wp_region_inv (Go.Mine.OnlyIn [] _) (by kernel_rfl) (by kernel_rfl) ((Go.Mine.OnlyIn.refl _ _).drew) ?_; (repeat (first | (refine Go.Mine.wpInv_run _ (by first | rfl | go_simp) (fun W hW => by (have e1 := hW.cell da (by simp); have e2 := hW.cell db (by simp); go_simp; first | exact ⟨rfl, hW⟩ | exact rfl | (simp only [Go.Mine.Oper.invUpon]; exact (hbeg W).mono (fun e w'' h => ⟨h.1, by rw [← h.2]; exact hW⟩)))) ?_; go_simp) | (refine Go.Mine.wpInv_skip (by first | rfl | go_simp) ?_; go_simp))); refine Go.Mine.wpInv_nil ?_; intro W hW; have e1 := hW.cell da (by simp); have e2 := hW.cell db (by simp))
                        go_wp2_with fail
                        go_ret2
                        exact (show RMakeEnd cs ns w (.returned (.tuple #[.pointer none, .int .i64 14])) _ from ⟨HT.out.1.then hW (by simp), .inr ⟨⟨by rw [HL.out.1, HL.out.2.1], by have := HL.out.1; have := H23.out; omega, by have := HL.out.1; have := H23.out; omega, HALL.out⟩, .inl ⟨HT.out.2, rfl⟩⟩⟩)
                      · have hp' : sb.isPrefixOf sa = false := Bool.eq_false_iff.2 hp
                        rw [hp'] at hbeg
                        have HY2 : Hid (∀ b', b' < b + 1 → a ≠ b' → (cs.getD b' []).isPrefixOf sa = false) := Lib.hid (fun b' h1 h2 => by
                          by_cases hbb : b' = b
                          · subst hbb; rw [hsb]; exact hp'
                          · exact HY.out b' (by omega) h2)
                        have HT := Lib.hid hto
                        clear hto HY hp hp' hsb hab
                        go_wp2_with fail
                        (refine Go.Mine.wp_region_inv (Go.Mine.OnlyIn [] _) (by kernel_rfl) (by kernel_rfl) ((Go.Mine.OnlyIn.refl _ _).drew) ?_; (repeat (first | (refine Go.Mine.wpInv_run _ (by first | rfl | go_simp) (fun W hW => by (have e1 := hW.cell da (by simp); have e2 := hW.cell db (by simp); go_simp; first | exact ⟨rfl, hW⟩ | exact rfl | (simp only [Go.Mine.Oper.invUpon]; exact (hbeg W).mono (fun e w'' h => ⟨h.1, by rw [← h.2]; exact hW⟩)))) ?_; go_simp) | (refine Go.Mine.wpInv_skip (by first | rfl | go_simp) ?_; go_simp))); refine Go.Mine.wpInv_nil ?_; intro W hW; have e1 := hW.cell da (by simp); have e2 := hW.cell db (by simp))
                        go_wp2_with fail
                        go_roundw
                        case rel => exact ⟨b + 1, by omega, by go_num, HY2, HT.out.then hW (by simp)⟩
                        case measure => simp [intOf]; omega
                  · obtain rfl : b = k := by omega
                    have HZ2 : Hid (∀ i' b', i' < a + 1 → b' < b → i' ≠ b' → (cs.getD b' []).isPrefixOf (cs.getD i' []) = false) := Lib.hid (fun i' b' h1 h2 h3 => by
                      by_cases hia : i' = a
                      · subst hia; rw [HSA.out]; exact HY.out b' h2 h3
                      · exact HZ.out i' b' (by omega) h2 h3)
                    clear HZ HY
                    go_wp2_with fail
                    go_roundw
                    case rel => exact ⟨a + 1, by omega, by go_num, HZ2, hto⟩
                    case measure => simp [intOf]; omega
              · obtain rfl : a = k := by omega
                have hno : ¬ Clash cs := by
                  rintro ⟨i, b, h1, h2, h3, h4⟩
                  rw [HL.out.1] at h1 h2
                  rw [HZ.out i b h1 h2 h3] at h4
                  cases h4
                obtain ⟨hrc, hrn⟩ := HRD.out
                have hrc2 := hrc.cells (fun p u hp => hto.cell hp (by simp))
                have hrn2 := hrn.cells (fun p u hp => hto.cell hp (by simp))
                rw [HL.out.1] at hrc2
                rw [HL.out.2.1] at hrn2
                have HT := Lib.hid (And.intro hto hno)
                have hsz := hto.size
                have h1c : ∀ u ∈ txtCells cs, u.oneCell' = true := txtCells_one cs
                have h1n : ∀ u ∈ intCells ns, u.oneCell' = true := intCells_one ns
                obtain ⟨i0, hi0, hz0, hz1, hz2⟩ := info_parts Try.infoStr
                obtain ⟨j0, hj0, hy0, hy1, hy2⟩ := info_parts Try.infoIC
                have tok : True := trivial
                clear hto hno hrc hrn HZ
                go_wp2_with (first | (at_builtin; have _t := tok; refine wpList_append_sl rfl _ _ 75 rfl w.heap.size 9 i0 _ 1 16 Try.underlying75 hi0 hz0 hz1 hz2 rfl (by decide) _ 0 [] rfl (Sl.lit wr [] 9 0 rfl (by decide) hsz) _ a (txtCells cs) rfl (hrc2.cells fun p u hp => ((OnlyIn.refl [] wr).alloc _).cell hp (by simp)) h1c (by simp only [maxLen]; omega) (by omega) (by simp; omega) ?_; intro v1 w1 hs1 hg1 hat1; rw [Nat.zero_add, List.nil_append] at hs1; have ht1 : OnlyIn [] wr w1 := ((OnlyIn.refl [] wr).alloc _).grown hg1 (fun k hk => .inr (by cases hk; exact Nat.le_refl _)); have hrn3 := hrn2.cells (fun p u hp => ht1.cell hp (by simp)); clear tok) | (at_builtin; refine wpList_append_sl rfl _ _ 41 rfl w.heap.size 3 j0 _ 1 8 Try.underlying41 hj0 hy0 hy1 hy2 rfl (by decide) _ 0 [] rfl (Sl.lit w1 [] 3 0 rfl (by decide) (by have := ht1.size; omega)) _ a (intCells ns) rfl (hrn3.cells fun p u hp => ((OnlyIn.refl [] w1).alloc _).cell hp (by simp)) h1n (by simp only [maxLen]; omega) (by omega) (by have := ht1.size; simp; omega) ?_; intro v2 w2 hs2 hg2 hat2; rw [Nat.zero_add, List.nil_append] at hs2; have ht2 : OnlyIn [] w1 w2 := ((OnlyIn.refl [] w1).alloc _).grown hg2 (fun k hk => .inr (by cases hk; exact Nat.le_refl _)); obtain ⟨A1, c1, rfl, _⟩ := hs1.val; obtain ⟨A2, c2, rfl, _⟩ := hs2.val))
                go_ret2
                obtain ⟨hto, hno⟩ := HT.out
                have hall := ((hto.then ht1 (by simp)).then ht2 (by simp)).alloc (.cells #[.slice A1 a c1, .slice A2 a c2] 96)
                refine (show RMakeEnd cs ns w (.returned (.tuple #[.pointer (some ⟨w2.heap.size, 0, none⟩), .int .i64 0])) _ from ⟨hall, .inr ⟨⟨by rw [HL.out.1, HL.out.2.1], by have := HL.out.1; have := H23.out; omega, by have := HL.out.1; have := H23.out; omega, HALL.out⟩, .inr ⟨hno, _, _, _, rfl, Blk.new w2 _ [.slice A1 a c1, .slice A2 a c2], ?_, ?_, by have := ht1.size; have := ht2.size; omega⟩⟩⟩)
                · rw [HL.out.1]; exact (hs1.only ht2 (by simp)).alloc _
                · rw [HL.out.2.1]; exact hs2.alloc _
  · have hend : ∀ e w', e = .returned (.tuple #[.pointer none, .int .i64 2]) → w = w' → RMakeEnd cs ns w e w' := by
      rintro e w' rfl rfl
      exact ⟨OnlyIn.refl _ _, .inl ⟨.inl (by rw [HL.out.1, HL.out.2.1]; exact h1), rfl⟩⟩
    have HE := Lib.hid hend
    have hz : ((N : Int) == (M : Int)) = false := by simp; omega
    have hz2 : ((N : Int) != (M : Int)) = true := by simp; omega
    have hz3 : ¬ N = M := h1
    clear hA hB hend h1
    go_enter Try.func60, Try.ntmps60
    go_wp2_with fail
    go_ret2
    exact HE.out _ _ rfl rfl
end Go.Proofs.Ytheihohojmcbiaa
