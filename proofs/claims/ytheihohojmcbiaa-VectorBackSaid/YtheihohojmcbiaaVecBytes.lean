/-
  Law 06: code, bytes.
-/
import Derived.Test.YtheihohojmcbiaaKnown06
import Derived.Test.YtheihohojmcbiaaKitInts
namespace Go.Proofs.Ytheihohojmcbiaa
open Go.RowKit Go.Mine

set_option maxRecDepth 100000 in
theorem code06_any (w : World) (s : List UInt8) (hb : ∀ c ∈ s, c = 48 ∨ c = 49) (h1 : 1 ≤ s.length) (h2 : s.length ≤ 11) : Calls Try.prog 46 #[.string (str s)] w fun e w' => e = .returned (.bool true) ∧ w = w' := by
  have hsz := str_size s
  obtain ⟨n, hn⟩ : ∃ n, s.length = n := ⟨_, rfl⟩
  rw [hn] at hsz h1 h2
  have HB := Lib.hid (And.intro hn hb)
  clear hn hb
  go_enter Try.func46, Try.ntmps46
  go_wp2_with fail
  go_loop [3] (fun i => ∃ k : Nat, k ≤ n ∧ i = .int .i64 (k : Int)) (fun i => n - (intOf i).toNat)
  case atStart => exact ⟨0, by omega, rfl⟩
  case round =>
    obtain ⟨k, hk, rfl⟩ := hrel
    by_cases hlt : k < n
    · have hks : k < (str s).size := by omega
      have hkb : k < s.length := by rw [HB.out.1]; omega
      have hget := str_at hks hkb
      rcases HB.out.2 _ (List.getElem_mem hkb) with hc | hc
      · have hv : (((str s)[k]'hks).toNat : Int) = 48 := by rw [hget, hc]; rfl
        clear hget hc
        go_wp2_with fail
        go_round
        case rel => exact ⟨k + 1, by omega, by go_num⟩
        case measure => simp [intOf]; omega
      · have hv : (((str s)[k]'hks).toNat : Int) = 49 := by rw [hget, hc]; rfl
        clear hget hc
        go_wp2_with fail
        go_round
        case rel => exact ⟨k + 1, by omega, by go_num⟩
        case measure => simp [intOf]; omega
    · obtain rfl : k = n := by omega
      have d1 : decide ((1 : Int) ≤ (k : Int)) = true := decide_eq_true (by omega)
      have d2 : decide ((k : Int) ≤ 11) = true := decide_eq_true (by omega)
      go_wp2_with fail
      go_ret
      exact ⟨by first | rfl | simp | (simp; omega), rfl⟩

set_option maxRecDepth 100000 in
set_option maxHeartbeats 2000000 in
theorem bytes06_any (w : World) (s : List UInt8) (hb : ∀ c ∈ s, c = 48 ∨ c = 49) (h2 : s.length ≤ 11) (v : Value) (ns : List Int) (hr : Rd w 1 v ns.length (intCells ns)) (hl : ns.length ≤ 60) (hx : ∀ z ∈ ns, -9223372036854775808 ≤ z ∧ z ≤ 9223372036854775807) :
    Calls Try.prog 47 #[.string (str s), v] w fun e w' => ∃ u, e = .returned u ∧ Rd w' 1 u (pack (digs s ++ odds ns)).length (byteCells (pack (digs s ++ odds ns))) ∧ OnlyIn [] w w' := by
  obtain ⟨j0, hj0, hy0, hy1, hy2⟩ := info_parts Try.infoIC
  have hsz := str_size s
  obtain ⟨n, hn⟩ : ∃ n, s.length = n := ⟨_, rfl⟩
  rw [hn] at hsz h2
  obtain ⟨B, c, rfl, hcc⟩ : ∃ A c, v = .slice A ns.length c ∧ ns.length ≤ c := by
    obtain ⟨-, A, c, h1, h2, -⟩ := hr; exact ⟨A, c, h1, h2⟩
  obtain ⟨M, hM⟩ : ∃ M, ns.length = M := ⟨_, rfl⟩
  have HB := Lib.hid (And.intro hn (And.intro hb (And.intro hr (And.intro hx hM))))
  rw [hM] at hl hcc ⊢
  clear hn hb hr hx hM
  go_enter Try.func47, Try.ntmps47
  go_wp2_with fail
  go_loopw [5, 6] (fun lv i wr => ∃ k : Nat, k ≤ n ∧ i = .int .i64 (k : Int) ∧ Sl wr w.heap.size 3 1 lv k (intCells ((digs (s.take k)).map fun (x : Nat) => (x : Int))) ∧ OnlyIn [] w wr) (fun _ i _ => n - (intOf i).toNat)
  case atStart => exact ⟨0, by omega, rfl, Sl.nil _ _ _ _, OnlyIn.refl _ _⟩
  case round =>
    obtain ⟨k, hk, rfl, hs1, hto⟩ := hrel
    obtain ⟨A1, c1, rfl, _⟩ := hs1.val
    have hbs := hto.size
    by_cases hlt : k < n
    · have hks : k < (str s).size := by omega
      have hkb : k < s.length := by rw [HB.out.1]; omega
      have hget := str_at hks hkb
      obtain ⟨d, hd, hv⟩ : ∃ d : Nat, (d = 0 ∨ d = 1) ∧ (((str s)[k]'hks).toNat : Int) = 48 + (d : Int) ∧ intCells ((digs (s.take (k + 1))).map fun (x : Nat) => (x : Int)) = intCells ((digs (s.take k)).map fun (x : Nat) => (x : Int)) ++ [.int .i64 (d : Int)] := by
        have ht : s.take (k + 1) = s.take k ++ [s[k]'hkb] := by rw [List.take_add_one, List.getElem?_eq_getElem hkb]; rfl
        rcases HB.out.2.1 _ (List.getElem_mem hkb) with hc | hc
        · exact ⟨0, .inl rfl, by rw [hget, hc]; rfl, by rw [ht, digs_append, hc]; simp [digs, intCells]⟩
        · exact ⟨1, .inr rfl, by rw [hget, hc]; rfl, by rw [ht, digs_append, hc]; simp [digs, intCells]⟩
      have HV := Lib.hid hv.2
      have hv1 := hv.1
      have hw8 : IntKind.u8.wrap (48 + (d : Int) - 48) = (d : Int) := by rw [IntKind.wrap_u8]; omega
      have hw9 : (48 : Int) + (d : Int) - 48 = (d : Int) := by omega
      have hs1a := hs1.alloc (.cells #[.int .i64 (d : Int)] 3)
      have hrd := Rd.lit (size := 1) wr [.int .i64 (d : Int)] 3 1 rfl
      have HT := Lib.hid hto
      clear hget hv hs1 hto
      go_wp2_with (at_builtin; refine wpList_append_sl rfl _ _ 41 rfl w.heap.size 3 j0 _ 1 8 Try.underlying41 hj0 hy0 hy1 hy2 rfl (by decide) (.slice A1 k c1) _ _ rfl hs1a _ 1 _ rfl hrd (by simp [Value.oneCell']) (by simp only [maxLen]; omega) (by omega) (by simp; omega) ?_; intro v2 w2 hsB hgB hatB)
      go_roundw
      case rel => exact ⟨k + 1, by omega, by go_num, by rw [HV.out]; exact hsB, (HT.out.alloc _).grown hgB (fun g hg => .inr (hs1a.own_lt g hg).1)⟩
      case measure => simp [intOf]; omega
    · obtain rfl : k = n := by omega
      have hr2 := HB.out.2.2.1.cells (fun p u hp => hto.cell hp (by simp))
      rw [HB.out.2.2.2.2] at hr2
      have HT := Lib.hid hto
      have h1c := intCells_one ns
      go_wp2_with (at_builtin; refine wpList_append_sl rfl _ _ 41 rfl w.heap.size 3 j0 _ 1 8 Try.underlying41 hj0 hy0 hy1 hy2 rfl (by decide) (.slice A1 k c1) _ _ rfl hs1 _ M (intCells ns) rfl hr2 h1c (by simp only [maxLen]; omega) (by omega) hbs ?_; intro v2 w2 hsB hgB hatB)
      have ho2 : OnlyIn [] w w2 := HT.out.grown hgB (fun g hg => .inr (hs1.own_lt g hg).1)
      have hts : s.take k = s := List.take_of_length_le (by rw [HB.out.1]; exact Nat.le_refl _)
      rw [← intCells_append, hts] at hsB
      have hbin : Bin (digs s) := digs_bin HB.out.2.1
      have hL : ((digs s).map (fun (x : Nat) => (x : Int)) ++ ns).length = k + M := by rw [List.length_append, List.length_map, digs_length, HB.out.1, HB.out.2.2.2.2]
      obtain ⟨A2, c2, rfl, _⟩ := hsB.val
      have hbt := Bits_any w2 _ _ (by rw [hL]; exact Rd.of_sl hsB) (by omega) (by
        intro x hx
        rcases List.mem_append.1 hx with h | h
        · obtain ⟨y, hy, rfl⟩ := List.mem_map.1 h
          have := hbin y hy
          omega
        · exact HB.out.2.2.2.1 x h)
      rw [odds_append, odds_nat _ hbin] at hbt
      have HO := Lib.hid ho2
      clear hsB hs1 hr2 hto hts hL ho2
      go_wp2_with (go_at_call 66; refine hbt.mono ?_; rintro e w3 ⟨u, rfl, hu, h3⟩)
      go_ret
      exact ⟨_, rfl, Rd.of_sl hu, HO.out.trans h3⟩
end Go.Proofs.Ytheihohojmcbiaa
