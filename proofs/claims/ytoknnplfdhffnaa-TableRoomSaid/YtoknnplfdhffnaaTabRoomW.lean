/-
  Law 26, TableRoom: the walk.
-/
import Derived.Test.YtoknnplfdhffnaaTabOnceW
import Derived.Test.YtoknnplfdhffnaaOpenInts
namespace Go.Proofs.Ytoknnplfdhffnaa
open Go.RowKit Go.Mine

/-- A table with so many sessions, of which so many are live. -/
structure Full26 (w0 w : World) (b mb n N m lv : Nat) : Prop where
  t : ∃ cs, TbAt w b mb n N cs ∧ cs.length = m ∧ (liveOf cs).length = lv
  on : OnlyIn [] w0 w

set_option maxHeartbeats 4000000 in
set_option maxRecDepth 100000 in
theorem tRoom_ok (w : World) (a0 : Int) (g0 : -9223372036854775808 ≤ a0 ∧ a0 ≤ 9223372036854775807) (A : Option Addr) (c : Nat) (l : List Int) (hA : 0 < l.length → ∃ g off, A = some ⟨g, off, none⟩ ∧ ∀ j u, (intCells l)[j]? = some u → w.cell? ⟨g, off + j, none⟩ = some u)
    (hok : ∀ z ∈ l, -9223372036854775808 ≤ z ∧ z ≤ 9223372036854775807) (hac : l.length ≤ 60) :
    Calls Try.prog 4 #[.int .i64 a0, .slice A l.length c] w fun e w' => e = .returned (.bool true) ∧ OnlyIn [] w w' := by
  obtain ⟨h0, h0'⟩ := g0
  have HA := Lib.hid hA
  have HK := Lib.hid hok
  clear hA hok
  obtain ⟨N, hN⟩ : ∃ N : Nat, a0 % 20 = (N : Int) - 1 := ⟨(a0 % 20 + 1).toNat, by omega⟩
  have hN1 : 1 ≤ N := by omega
  have hN2 : N ≤ 20 := by omega
  have HN := Lib.hid hN
  clear hN
  have hs : (1 : Int) + ((N : Int) - 1) = (N : Int) := by omega
  go_enter Try.func4, Try.ntmps4
  go_wp2_with fail
  refine (awake_any w).mono ?_
  rintro e w1 ⟨rfl, ht1⟩
  go_wp2_with fail
  refine (Pick_any a0 20 w1 (by omega) (by omega) h0 h0').mono ?_
  rintro e w' ⟨rfl, rfl⟩
  rw [HN.out]
  go_wp2_with fail
  refine (tNew_ok w1 hN1 (by omega)).mono ?_
  rintro e w2 ⟨b, mb, rfl, ho2, ht2, hb, hm⟩
  have hbs := ht1.size
  have hb' : w.heap.size ≤ b := by omega
  have hm' : w.heap.size ≤ mb := by omega
  have hO := ht1.trans ht2
  clear ht1 ht2 h0 h0' hb hm hbs
  go_wp2_with fail
  go_loopw [8] (fun i wr => ∃ (k : Nat), k ≤ N ∧ i = .int .i64 ((k : Int) + 1) ∧ OnlyIn [] w wr ∧ ∃ cs, TbAt wr b mb k N cs ∧ cs.length = k ∧ (liveOf cs).length = k) (fun i _ => N + 1 - (RowKit.intOf i).toNat)
  case atStart => exact ⟨0, by omega, rfl, hO, [], ho2, rfl, by simp [liveOf, liveTo]⟩
  case round =>
    clear hO ho2
    obtain ⟨k, hk, rfl, hO, cs, ho, hcl, hlv⟩ := hrel
    by_cases hlt : k < N
    · have hle : decide (((k : Int) + 1) ≤ (N : Int)) = true := decide_eq_true (by omega)
      go_wp2_with fail
      refine (opens_room wr ho (by omega) (by omega) (by omega) ((k : Int) + 1) (by omega)).mono ?_
      rintro e w3 ⟨rfl, ho3, ht3⟩
      have ht := hO.then ht3 (by simp; omega)
      have hl3 := liveOf_more_length cs
      have HH := Lib.hid (And.intro ho3 (And.intro hcl (And.intro hlv hl3)))
      clear ho3 hcl hlv hl3 ho hO ht3
      go_wp2_with fail
      go_roundw
      case rel => exact ⟨k + 1, by omega, by go_num, ht, cs ++ [0], HH.out.1, by simp [HH.out.2.1], by rw [HH.out.2.2.2, HH.out.2.2.1]⟩
      case measure => simp [RowKit.intOf]; omega
    · obtain rfl : k = N := by omega
      obtain ⟨M, hM⟩ : ∃ M, l.length = M := ⟨_, rfl⟩
      have HM := Lib.hid hM
      rw [hM] at hac ⊢
      have HO := Lib.hid (And.intro hO (And.intro ho (And.intro hcl hlv)))
      clear hO ho hcl hlv hM
      go_wp2_with fail
      go_loopw [9, 10] (fun q i wr => ∃ (j q' : Nat), j ≤ M ∧ i = .int .i64 (j : Int) ∧ q = .int .i64 (q' : Int) ∧ q' ≤ k ∧ OnlyIn [] w wr ∧ ∃ cs, TbAt wr b mb (k + j) k cs ∧ cs.length = k ∧ (liveOf cs).length + q' = k) (fun _ i _ => M - (RowKit.intOf i).toNat)
      case atStart => exact ⟨0, 0, by omega, rfl, rfl, by omega, HO.out.1, _, HO.out.2.1, HO.out.2.2.1, by have := HO.out.2.2.2; omega⟩
      case round =>
        clear HO
        obtain ⟨j, q, hj, rfl, rfl, hq, hO, cs, ho, hcl, hlv⟩ := hrel
        by_cases hjl : j < M
        · have hjm : j < l.length := by rw [HM.out]; exact hjl
          obtain ⟨g, off, rfl, hg⟩ := HA.out (by omega)
          have hxb := HK.out _ (List.getElem_mem hjm)
          have q0 := hO.cell (hg j _ (intCells_get hjm)) (by simp)
          obtain ⟨x, hx⟩ : ∃ x, l[j]'hjm = x := ⟨_, rfl⟩
          rw [hx] at q0 hxb
          obtain ⟨y, hy⟩ : ∃ y : Nat, x % (k : Int) = (y : Int) := ⟨(x % (k : Int)).toNat, by have := Int.emod_nonneg x (show (k : Int) ≠ 0 by omega); omega⟩
          have hyk : y < k := by have := Int.emod_lt_of_pos x (show (0 : Int) < (k : Int) by omega); omega
          have hpk := Pick_any x (k : Int) wr (by omega) (by omega) hxb.1 hxb.2
          rw [hy] at hpk
          have hcm : (1 : Int) + (y : Int) = (y : Int) + 1 := by omega
          have hwy : IntKind.i64.wrap ((y : Int) + 1) = (y : Int) + 1 := by rw [IntKind.wrap_i64]; omega
          have hend := tEnd_any wr ho (by omega) ((y : Int) + 1) (by omega) 21
          have hyc : y < cs.length := by omega
          have hwq : IntKind.i64.wrap ((q : Int) + 1) = (q : Int) + 1 := by rw [IntKind.wrap_i64]; omega
          have hji : (j : Int) < (M : Int) := by omega
          by_cases hd0 : cs.getD y 0 = 0
          · have hE0 : endE cs ((y : Int) + 1) 21 = 0 := by rw [endE_in (by decide) hyc, if_pos hd0]
            have hS0 : endS cs ((y : Int) + 1) 21 = cs.set y 21 := by unfold endS; rw [if_pos hE0, show ((y : Int) + 1 - 1).toNat = y by omega]
            have hl2 := liveOf_end hyc hd0 (c := 21) (by decide)
            rw [hE0, hS0] at hend
            have HH := Lib.hid (And.intro hO (And.intro hcl (And.intro hlv hl2)))
            clear hg hx hxb hy hE0 hS0 hl2 hd0 hlv hcl ho hO hjm hyc hyk
            go_wp2_with fail
            refine hpk.mono ?_
            rintro e w' ⟨rfl, rfl⟩
            go_wp2_with fail
            refine hend.mono ?_
            rintro e w3 ⟨rfl, hT3, ht3⟩
            have hT4 : TbAt w3 b mb (k + (j + 1)) k (cs.set y 21) := by rw [← Nat.add_assoc]; exact hT3
            have HT := Lib.hid (And.intro hT4 ht3)
            clear hT3 hT4 ht3 hend hpk
            go_wp2_with fail
            go_roundw
            case rel =>
              obtain ⟨a1, a2, a3, a4⟩ := HH.out
              exact ⟨j + 1, q + 1, by omega, by go_num, by go_num, by omega, a1.then HT.out.2 (by simp; omega), _, HT.out.1, by simp [a2], by omega⟩
            case measure => simp [RowKit.intOf]; omega
          · have hE0 : endE cs ((y : Int) + 1) 21 = 19 := by rw [endE_in (by decide) hyc, if_neg hd0]
            have hS0 : endS cs ((y : Int) + 1) 21 = cs := by unfold endS; rw [hE0, if_neg (by decide)]
            rw [hE0, hS0] at hend
            have HH := Lib.hid (And.intro hO (And.intro hcl hlv))
            clear hg hx hxb hy hE0 hS0 hd0 hlv hcl ho hO hjm hyc hyk
            go_wp2_with fail
            refine hpk.mono ?_
            rintro e w' ⟨rfl, rfl⟩
            go_wp2_with fail
            refine hend.mono ?_
            rintro e w3 ⟨rfl, hT3, ht3⟩
            have hT4 : TbAt w3 b mb (k + (j + 1)) k cs := by rw [← Nat.add_assoc]; exact hT3
            have HT := Lib.hid (And.intro hT4 ht3)
            clear hT3 hT4 ht3 hend hpk
            go_wp2_with fail
            go_roundw
            case rel =>
              obtain ⟨a1, a2, a3⟩ := HH.out
              exact ⟨j + 1, q, by omega, by go_num, rfl, hq, a1.then HT.out.2 (by simp; omega), _, HT.out.1, a2, a3⟩
            case measure => simp [RowKit.intOf]; omega
        · obtain rfl : j = M := by omega
          have HO := Lib.hid (And.intro hO (And.intro ho (And.intro hcl hlv)))
          clear hO ho hcl hlv
          go_wp2_with fail
          go_loopw [11] (fun i wr => ∃ (t : Nat), t ≤ q ∧ i = .int .i64 ((t : Int) + 1) ∧ OnlyIn [] w wr ∧ ∃ cs, TbAt wr b mb (k + j + t) k cs ∧ cs.length = k + t ∧ (liveOf cs).length + q = k + t) (fun i _ => q + 1 - (RowKit.intOf i).toNat)
          case atStart => exact ⟨0, by omega, rfl, HO.out.1, _, HO.out.2.1, HO.out.2.2.1, HO.out.2.2.2⟩
          case round =>
            clear HO
            obtain ⟨t, ht, rfl, hO, cs, ho, hcl, hlv⟩ := hrel
            by_cases htl : t < q
            · have hle : decide (((t : Int) + 1) ≤ (q : Int)) = true := decide_eq_true (by omega)
              have hwt : IntKind.i64.wrap ((k : Int) + ((t : Int) + 1)) = (k : Int) + ((t : Int) + 1) := by rw [IntKind.wrap_i64]; omega
              have hwt2 : IntKind.i64.wrap ((t : Int) + 1 + 1) = (t : Int) + 1 + 1 := by rw [IntKind.wrap_i64]; omega
              have hop := opens_room wr ho (by omega) (by omega) (by omega) ((k : Int) + ((t : Int) + 1)) (by omega)
              have hlm := liveOf_more_length cs
              have HH := Lib.hid (And.intro hO (And.intro hcl (And.intro hlv hlm)))
              clear hO ho hcl hlv hlm
              go_wp2_with fail
              refine hop.mono ?_
              rintro e w3 ⟨rfl, hT3, ht3⟩
              have hT4 : TbAt w3 b mb (k + j + (t + 1)) k (cs ++ [0]) := by rw [← Nat.add_assoc]; exact hT3
              have HT := Lib.hid (And.intro hT4 ht3)
              clear hT3 hT4 ht3 hop
              go_wp2_with fail
              go_roundw
              case rel =>
                obtain ⟨a1, a2, a3, a4⟩ := HH.out
                exact ⟨t + 1, by omega, by go_num, a1.then HT.out.2 (by simp; omega), _, HT.out.1, by simp [a2]; omega, by omega⟩
              case measure => simp [RowKit.intOf]; omega
            · obtain rfl : t = q := by omega
              have hlk : (liveOf cs).length = k := by omega
              have hle : decide (((t : Int) + 1) ≤ (t : Int)) = false := decide_eq_false (by omega)
              have hop := opens_full wr ho hlk
              have HH := Lib.hid (And.intro hO (And.intro ho (And.intro hcl hlk)))
              clear hO ho hcl hlv hlk
              go_wp2_with fail
              refine hop.mono ?_
              rintro e w3 ⟨rfl, ht3⟩
              have ho3 := HH.out.2.1.only0 ht3
              have hlv3 := tLive_any w3 ho3
              rw [HH.out.2.2.2] at hlv3
              clear hop
              go_wp2_with fail
              refine hlv3.mono ?_
              rintro e w4 ⟨v4, rfl, hs4, ht4⟩
              obtain ⟨A4, c4, rfl, hc4⟩ := hs4.val
              have ho4 := ho3.only0 ht4
              have hrm := tRoom_any w4 ho4
              rw [HH.out.2.2.2] at hrm
              have hkk : (k : Int) - (k : Int) = 0 := by omega
              rw [hkk] at hrm
              clear hlv3 hs4
              go_wp2_with fail
              refine hrm.mono ?_
              rintro e w5 ⟨rfl, ht5⟩
              have ho5 := ho4.only0 ht5
              have hla := tLast_any w5 ho5
              rw [HH.out.2.2.1] at hla
              have hkt : ((k + t : Nat) : Int) = (k : Int) + (t : Int) := by omega
              rw [hkt] at hla
              have hwk : IntKind.i64.wrap ((k : Int) + (t : Int)) = (k : Int) + (t : Int) := by rw [IntKind.wrap_i64]; omega
              clear hrm
              go_wp2_with fail
              refine hla.mono ?_
              rintro e w' ⟨rfl, rfl⟩
              go_wp2_with fail
              go_ret
              exact ⟨by simp, ((HH.out.1.trans ht3).trans ht4).trans ht5⟩

set_option maxRecDepth 100000 in
theorem tRoom_long (w : World) (a0 : Int) (g0 : -9223372036854775808 ≤ a0 ∧ a0 ≤ 9223372036854775807) (A : Option Addr) (c n : Nat) (hn : 60 < n) :
    Calls Try.prog 4 #[.int .i64 a0, .slice A n c] w fun e w' => e = .returned (.bool true) ∧ OnlyIn [] w w' := by
  obtain ⟨h0, h0'⟩ := g0
  obtain ⟨N, hN⟩ : ∃ N : Nat, a0 % 20 = (N : Int) - 1 := ⟨(a0 % 20 + 1).toNat, by omega⟩
  have hN1 : 1 ≤ N := by omega
  have hN2 : N ≤ 20 := by omega
  have HN := Lib.hid hN
  clear hN
  have hs : (1 : Int) + ((N : Int) - 1) = (N : Int) := by omega
  go_enter Try.func4, Try.ntmps4
  go_wp2_with fail
  refine (awake_any w).mono ?_
  rintro e w1 ⟨rfl, ht1⟩
  go_wp2_with fail
  refine (Pick_any a0 20 w1 (by omega) (by omega) h0 h0').mono ?_
  rintro e w' ⟨rfl, rfl⟩
  rw [HN.out]
  go_wp2_with fail
  refine (tNew_ok w1 hN1 (by omega)).mono ?_
  rintro e w2 ⟨b, mb, rfl, ho2, ht2, hb, hm⟩
  go_wp2_with fail
  go_ret
  exact ⟨rfl, ht1.trans ht2⟩
set_option maxRecDepth 100000 in
theorem tRoom_walk {w : World} (a0 : Int) (g0 : -9223372036854775808 ≤ a0 ∧ a0 ≤ 9223372036854775807) (x : Value × List Int) (y : Rd w 1 x.1 x.2.length (intCells x.2) ∧ (∀ z ∈ x.2, -9223372036854775808 ≤ z ∧ z ≤ 9223372036854775807) ∧ x.2.length ≤ maxLen) :
    Calls Try.prog 4 #[.int .i64 a0, x.1] w fun e w' => e = .returned (.bool true) ∧ OnlyIn [] w w' := by
  obtain ⟨v, l⟩ := x
  obtain ⟨⟨-, A, c, hv, -, hA⟩, hok, -⟩ := y
  simp only at hv hA hok ⊢
  subst hv
  by_cases hac : l.length ≤ 60
  · exact tRoom_ok w a0 g0 A c l hA hok hac
  · exact tRoom_long w a0 g0 A c l.length (by omega)
end Go.Proofs.Ytoknnplfdhffnaa
