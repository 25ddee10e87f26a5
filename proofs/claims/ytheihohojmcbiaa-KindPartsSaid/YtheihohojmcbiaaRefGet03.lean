/-
  The reference for layer 3: Get, Put.
-/
import Derived.Test.YtheihohojmcbiaaRefMake03
import Derived.Test.YtheihohojmcbiaaPrefixGet
namespace Go.Mine
open Go.RowKit
/-- Bits as a text. -/
def txtB (l : List Bool) : List UInt8 := l.map fun x => if x then 49 else 48
theorem txtB_length (l : List Bool) : (txtB l).length = l.length := by simp [txtB]
/-- The text of what is seen from a place on. -/
def seenOf (bs : List UInt8) (i : Nat) : List UInt8 := txtB ((bitsFrom bs i).take 24)
theorem seenOf_length (bs : List UInt8) (i : Nat) : (seenOf bs i).length = min 24 (8 * bs.length - i) := by rw [seenOf, txtB_length, List.length_take, bitsFrom_length]
theorem seenOf_get {bs : List UInt8} {i j : Nat} (h : j < (seenOf bs i).length) : (seenOf bs i)[j]'h = UInt8.ofNat (48 + bitAt bs (i + j)) := by
  have hb := bitAt_lt bs (i + j)
  simp only [seenOf, txtB, List.getElem_map, List.getElem_take, bitsFrom, List.getElem_range]
  rcases (by omega : bitAt bs (i + j) = 0 ∨ bitAt bs (i + j) = 1) with h1 | h1 <;> rw [h1] <;> rfl
/-- What the reference answers. -/
def rgetF (zs : List (List UInt8 × Int)) (T : List UInt8) : Int × Int × Int :=
  match zs.find? fun c => c.1.isPrefixOf T with
  | some c => (c.2, (c.1.length : Int), 0)
  | none => if zs.any fun c => T.isPrefixOf c.1 then (0, 0, 5) else (0, 0, 7)
theorem rgetF_hit {zs : List (List UInt8 × Int)} {T : List UInt8} {k : Nat} (hk : k < zs.length) (hno : ∀ j, j < k → (zs.getD j ([], 0)).1.isPrefixOf T = false) (hy : (zs.getD k ([], 0)).1.isPrefixOf T = true) :
    rgetF zs T = ((zs.getD k ([], 0)).2, ((zs.getD k ([], 0)).1.length : Int), 0) := by
  have hg : zs.getD k ([], 0) = zs[k]'hk := by rw [List.getD_eq_getElem?_getD, List.getElem?_eq_getElem hk]; rfl
  rw [hg] at hy ⊢
  have : (zs.find? fun c => c.1.isPrefixOf T) = some (zs[k]'hk) := by
    rw [List.find?_eq_some_iff_getElem]
    refine ⟨hy, k, hk, rfl, fun j hj => ?_⟩
    have := hno j hj
    rw [List.getD_eq_getElem?_getD, List.getElem?_eq_getElem (by omega)] at this
    simp only [Option.getD] at this
    rw [this]; rfl
  rw [rgetF, this]
theorem rgetF_none {zs : List (List UInt8 × Int)} {T : List UInt8} (hno : ∀ j, j < zs.length → (zs.getD j ([], 0)).1.isPrefixOf T = false) : (zs.find? fun c => c.1.isPrefixOf T) = none := by
  rw [List.find?_eq_none]
  intro c hc
  obtain ⟨j, hj⟩ := List.getElem?_of_mem hc
  have := hno j (List.getElem?_eq_some_iff.1 hj).1
  rw [List.getD_eq_getElem?_getD, hj] at this
  simp only [Option.getD] at this
  rw [this]
  simp
theorem rgetF_more {zs : List (List UInt8 × Int)} {T : List UInt8} (hno : ∀ j, j < zs.length → (zs.getD j ([], 0)).1.isPrefixOf T = false) {k : Nat} (hk : k < zs.length) (hy : T.isPrefixOf (zs.getD k ([], 0)).1 = true) : rgetF zs T = (0, 0, 5) := by
  rw [rgetF, rgetF_none hno]
  have : (zs.any fun c => T.isPrefixOf c.1) = true := by
    rw [List.any_eq_true]
    refine ⟨_, List.getElem_mem hk, ?_⟩
    rw [List.getD_eq_getElem?_getD, List.getElem?_eq_getElem hk] at hy
    exact hy
  simp [this]
theorem rgetF_code {zs : List (List UInt8 × Int)} {T : List UInt8} (hno : ∀ j, j < zs.length → (zs.getD j ([], 0)).1.isPrefixOf T = false) (hno2 : ∀ j, j < zs.length → T.isPrefixOf (zs.getD j ([], 0)).1 = false) : rgetF zs T = (0, 0, 7) := by
  rw [rgetF, rgetF_none hno]
  have : (zs.any fun c => T.isPrefixOf c.1) = false := by
    rw [List.any_eq_false]
    intro c hc
    obtain ⟨j, hj⟩ := List.getElem?_of_mem hc
    have := hno2 j (List.getElem?_eq_some_iff.1 hj).1
    rw [List.getD_eq_getElem?_getD, hj] at this
    simp only [Option.getD] at this
    rw [this]
    simp
  simp only [this, Bool.false_eq_true, if_false]
theorem told_hit {zs : List (List UInt8 × Int)} {x : Int} {k : Nat} (hk : k < zs.length) (hno : ∀ j, j < k → (zs.getD j ([], 0)).2 ≠ x) (hy : (zs.getD k ([], 0)).2 = x) : told zs x = some (str (zs.getD k ([], 0)).1) := by
  have hg : zs.getD k ([], 0) = zs[k]'hk := by rw [List.getD_eq_getElem?_getD, List.getElem?_eq_getElem hk]; rfl
  rw [hg] at hy ⊢
  have : (zs.find? fun c => c.2 == x) = some (zs[k]'hk) := by
    rw [List.find?_eq_some_iff_getElem]
    refine ⟨by simpa using hy, k, hk, rfl, fun j hj => ?_⟩
    have := hno j hj
    rw [List.getD_eq_getElem?_getD, List.getElem?_eq_getElem (by omega)] at this
    simpa using this
  rw [told, this]
  rfl
theorem told_no {zs : List (List UInt8 × Int)} {x : Int} (hno : ∀ j, j < zs.length → (zs.getD j ([], 0)).2 ≠ x) : told zs x = none := by
  have : (zs.find? fun c => c.2 == x) = none := by
    rw [List.find?_eq_none]
    intro c hc
    obtain ⟨j, hj⟩ := List.getElem?_of_mem hc
    have := hno j (List.getElem?_eq_some_iff.1 hj).1
    rw [List.getD_eq_getElem?_getD, hj] at this
    simpa using this
  rw [told, this]
  rfl
end Go.Mine
namespace Go.Proofs.Ytheihohojmcbiaa
open Go.RowKit Go.Mine

/-- What is read of the reference's tree. -/
theorem RT.cells {w : World} {base b : Nat} {v u : Value} {cs : List (List UInt8)} {ns : List Int} (h : RT w base b v u cs ns) (hl : cs.length = ns.length) :
    ∃ A c B d, v = .slice A (cs.zip ns).length c ∧ u = .slice B (cs.zip ns).length d ∧ ∀ k, k < (cs.zip ns).length → ∃ g off g' off', A = some ⟨g, off, none⟩ ∧ B = some ⟨g', off', none⟩ ∧
      w.cell? ⟨g, off + k, none⟩ = some (.string (str ((cs.zip ns).getD k ([], 0)).1)) ∧ w.cell? ⟨g', off' + k, none⟩ = some (.int .i64 ((cs.zip ns).getD k ([], 0)).2) := by
  have hz : (cs.zip ns).length = cs.length := by rw [List.length_zip, ← hl, Nat.min_self]
  have hr := Rd.of_sl h.sc
  have hr2 := Rd.of_sl h.sn
  obtain ⟨-, A, c, hv, -, hA⟩ := hr
  obtain ⟨-, B, d, hu, -, hB⟩ := hr2
  refine ⟨A, c, B, d, by rw [hz]; exact hv, by rw [hz, hl]; exact hu, fun k hk => ?_⟩
  have hkc : k < cs.length := by omega
  have hkn : k < ns.length := by omega
  obtain ⟨g, off, e1, e2⟩ := hA (by omega)
  obtain ⟨g', off', e3, e4⟩ := hB (by omega)
  have hg : (cs.zip ns).getD k ([], 0) = (cs[k]'hkc, ns[k]'hkn) := by
    rw [List.getD_eq_getElem?_getD, List.getElem?_eq_getElem hk, List.getElem_zip]; rfl
  rw [hg]
  exact ⟨g, off, g', off', e1, e3, e2 k _ (txtCells_get hkc), e4 k _ (intCells_get hkn)⟩

set_option maxRecDepth 100000 in
set_option maxHeartbeats 1000000 in
theorem rPut_any (w : World) {base b : Nat} {v u : Value} {cs : List (List UInt8)} {ns : List Int} (h : RT w base b v u cs ns) (hl : cs.length = ns.length) (hN : cs.length ≤ 1000000) (x : Int) :
    Calls Try.prog 53 #[.pointer (some ⟨b, 0, none⟩), .int .i64 x] w fun e w' => e = .returned (.tuple #[.string (putOf (told (cs.zip ns)) x).1, .int .i64 (putOf (told (cs.zip ns)) x).2]) ∧ w = w' := by
  have hz : (cs.zip ns).length = cs.length := by rw [List.length_zip, ← hl, Nat.min_self]
  obtain ⟨A, c, B, d, rfl, rfl, hcell⟩ := h.cells hl
  have c0 := h.blk.cell (i := 0) rfl
  have c1 := h.blk.cell (i := 1) rfl
  obtain ⟨zs, hzs⟩ : ∃ zs, cs.zip ns = zs := ⟨_, rfl⟩
  rw [hzs] at hcell hz c0 c1 ⊢
  obtain ⟨N, hNN⟩ : ∃ N, zs.length = N := ⟨_, rfl⟩
  rw [hNN] at hcell hz c0 c1
  have hN' : N ≤ 1000000 := by omega
  have HC := Lib.hid hcell
  have HN := Lib.hid hNN
  obtain ⟨R, hR⟩ : ∃ R, putOf (told zs) x = R := ⟨_, rfl⟩
  rw [hR]
  have HR := Lib.hid hR
  clear h hcell hNN hz hN hl hR hzs
  go_enter Try.func53, Try.ntmps53
  go_wp2_with fail
  go_loop [6] (fun i => ∃ k : Nat, k ≤ N ∧ i = .int .i64 (k : Int) ∧ Hid (∀ j, j < k → (zs.getD j ([], 0)).2 ≠ x)) (fun i => N - (intOf i).toNat)
  case atStart => exact ⟨0, by omega, rfl, Lib.hid (fun j hj => absurd hj (by omega))⟩
  case round =>
    obtain ⟨k, hk, rfl, HZ⟩ := hrel
    by_cases hlt : k < N
    · obtain ⟨g, off, g', off', rfl, rfl, d1, d2⟩ := HC.out k hlt
      obtain ⟨s, hs⟩ : ∃ s, (zs.getD k ([], 0)).1 = s := ⟨_, rfl⟩
      obtain ⟨y, hy⟩ : ∃ y, (zs.getD k ([], 0)).2 = y := ⟨_, rfl⟩
      rw [hs] at d1
      rw [hy] at d2
      by_cases hxy : y = x
      · subst hxy
        have hres : R = (str s, 0) := by
          rw [← HR.out, putOf, told_hit (by rw [HN.out]; exact hlt) HZ.out hy, hs]
        have HQ := Lib.hid hres
        clear hs hy hres HZ
        go_wp2_with fail
        go_ret2
        rw [HQ.out]
        exact ⟨rfl, rfl⟩
      · have hb : (y == x) = false := by simpa using hxy
        have HZ2 : Hid (∀ j, j < k + 1 → (zs.getD j ([], 0)).2 ≠ x) := Lib.hid (fun j hj => by
          by_cases hjk : j = k
          · subst hjk; rw [hy]; exact hxy
          · exact HZ.out j (by omega))
        clear hs hy hxy HZ
        go_wp2_with fail
        go_round
        case rel => exact ⟨k + 1, by omega, by go_num, HZ2⟩
        case measure => simp [intOf]; omega
    · obtain rfl : k = N := by omega
      have hres : R = (⟨#[]⟩, 18) := by
        rw [← HR.out, putOf, told_no (by rw [HN.out]; exact HZ.out)]
      have HQ := Lib.hid hres
      clear hres HZ
      go_wp2_with fail
      go_ret2
      rw [HQ.out]
      exact ⟨rfl, rfl⟩

set_option maxRecDepth 100000 in
theorem rGet_neg (w : World) (p : Value) (A : Option Addr) (n c : Nat) (i : Int) (hi : i < 0) : Calls Try.prog 51 #[p, .slice A n c, .int .i64 i] w fun e w' => e = .returned (.tuple #[.int .i64 0, .int .i64 0, .int .i64 3]) ∧ OnlyIn [] w w' := by
  go_enter Try.func51, Try.ntmps51
  go_wp2_with fail
  go_ret3
  exact ⟨rfl, OnlyIn.refl _ _⟩

theorem utf_dig (x : Nat) (h : x < 2) : (Value.int .u8 (48 + (x : Int))) = .int .u8 ((UInt8.ofNat (48 + x)).toNat : Int) := by
  congr 1; rw [UInt8.toNat_ofNat_of_lt' (show 48 + x < 2 ^ 8 by omega)]; push_cast; rfl

set_option maxRecDepth 100000 in
set_option maxHeartbeats 2000000 in
theorem rGet_any (w : World) {base b : Nat} {tv tu : Value} {cs : List (List UInt8)} {ns : List Int} (h : RT w base b tv tu cs ns) (hl : cs.length = ns.length) (hN : cs.length ≤ 1000000) (hs : ∀ s ∈ cs, s.length ≤ 1000000)
    (v : Value) (bs : List UInt8) (hr : Rd w 1 v bs.length (byteCells bs)) (hbl : bs.length ≤ 1000000000) (i0 : Nat) (hi0 : i0 ≤ 9223372036854775807) :
    Calls Try.prog 51 #[.pointer (some ⟨b, 0, none⟩), v, .int .i64 (i0 : Int)] w fun e w' => e = .returned (.tuple #[.int .i64 (rgetF (cs.zip ns) (seenOf bs i0)).1, .int .i64 (rgetF (cs.zip ns) (seenOf bs i0)).2.1, .int .i64 (rgetF (cs.zip ns) (seenOf bs i0)).2.2]) ∧ OnlyIn [] w w' := by
  have hge : ¬ ((i0 : Int) < 0) := by omega
  have hz : (cs.zip ns).length = cs.length := by rw [List.length_zip, ← hl, Nat.min_self]
  have hsz : ∀ k, k < (cs.zip ns).length → ((cs.zip ns).getD k ([], 0)).1.length ≤ 1000000 := fun k hk => by
    rw [List.getD_eq_getElem?_getD, List.getElem?_eq_getElem hk, List.getElem_zip]
    exact hs _ (List.getElem_mem _)
  obtain ⟨A, c, B, d, rfl, rfl, hcell⟩ := h.cells hl
  have c0 := h.blk.cell (i := 0) rfl
  have c1 := h.blk.cell (i := 1) rfl
  obtain ⟨zs, hzs⟩ : ∃ zs, cs.zip ns = zs := ⟨_, rfl⟩
  rw [hzs] at hcell hz hsz c0 c1 ⊢
  obtain ⟨N, hNN⟩ : ∃ N, zs.length = N := ⟨_, rfl⟩
  rw [hNN] at hcell hz hsz c0 c1
  have hN' : N ≤ 1000000 := by omega
  have HC := Lib.hid hcell
  have HS := Lib.hid hsz
  have HN := Lib.hid hNN
  obtain ⟨VA, vc, rfl⟩ : ∃ VA vc, v = .slice VA bs.length vc := by
    obtain ⟨-, A, c, rfl, -⟩ := hr
    exact ⟨A, c, rfl⟩
  obtain ⟨T, hT⟩ : ∃ T, seenOf bs i0 = T := ⟨_, rfl⟩
  rw [hT]
  obtain ⟨t, ht⟩ : ∃ t, T.length = t := ⟨_, rfl⟩
  have htl : t = min 24 (8 * bs.length - i0) := by rw [← ht, ← hT, seenOf_length]
  have hTg : ∀ j (hj : j < t), T.take (j + 1) = T.take j ++ [UInt8.ofNat (48 + bitAt bs (i0 + j))] := fun j hj => by
    have hjT : j < T.length := by omega
    rw [List.take_add_one, List.getElem?_eq_getElem hjT]
    subst hT
    rw [seenOf_get hjT]
    rfl
  obtain ⟨R, hR⟩ : ∃ R, rgetF zs T = R := ⟨_, rfl⟩
  rw [hR]
  have HR := Lib.hid hR
  have HT := Lib.hid (And.intro ht hTg)
  clear h hcell hNN hz hN hl hR hzs hsz hT hTg ht
  go_enter Try.func51, Try.ntmps51
  go_wp2_with fail
  go_loopw [9, 10, 11] (fun s _ _ wr => ∃ j : Nat, j ≤ t ∧ s = .string (str (T.take j)) ∧ OnlyIn [] w wr) (fun s _ _ _ => match s with | .string s => t - s.size | _ => 0)
  case atStart => exact ⟨0, by omega, by simp [str], OnlyIn.refl _ _⟩
  case round =>
    obtain ⟨j, hj, rfl, hto⟩ := hrel
    have hsj : (str (T.take j)).size = j := by rw [str_size, List.length_take, HT.out.1]; omega
    have hcount := fun W => rCount_any W VA bs.length vc hbl
    by_cases hlt : j < t
    · have hw1 : IntKind.i64.wrap ((i0 : Int) + (j : Int)) = (i0 : Int) + (j : Int) := by rw [IntKind.wrap_i64]; omega
      have hd1 : decide ((i0 : Int) + (j : Int) < 8 * (bs.length : Int)) = true := decide_eq_true (by omega)
      have hd2 : decide ((j : Int) < 24) = true := decide_eq_true (by omega)
      have hrd := hr.cells (fun p u hp => hto.cell hp (by simp))
      have hread := rRead_all wr _ bs hrd hbl ((i0 + j : Nat) : Int) 1 (by omega)
      rw [show (1 : Int) = ((1 : Nat) : Int) from rfl, readOf_ok (by omega) (by omega), show numAt bs (i0 + j) 1 = bitAt bs (i0 + j) by simp [numAt]] at hread
      obtain ⟨x, hx⟩ : ∃ x, bitAt bs (i0 + j) = x := ⟨_, rfl⟩
      have hx2 : x < 2 := by rw [← hx]; exact bitAt_lt _ _
      have hq2 := HT.out.2 j hlt
      rw [hx] at hq2 hread
      obtain ⟨q, hq⟩ : ∃ q, T.take j = q := ⟨_, rfl⟩
      rw [hq] at hq2 hsj
      have hql : q.length ≤ 24 := by rw [← str_size, hsj]; omega
      have hadd := fun w => run_add_txt (P := Try.prog) w q [UInt8.ofNat (48 + x)] (by simp; omega)
      have hcv : ∀ W : World, (convert 22 9 (.slice (some ⟨W.heap.size, 0, none⟩) 1 1)).run Try.prog (W.alloc (.cells #[.int .u8 (48 + (x : Int))] 5)) = .ok (.string (str [UInt8.ofNat (48 + x)])) (W.alloc (.cells #[.int .u8 (48 + (x : Int))] 5)) := fun W => by
        rw [utf_dig x hx2]
        exact run_str (bs := [UInt8.ofNat (48 + x)]) (Rd.lit W (byteCells [UInt8.ofNat (48 + x)]) 5 1 rfl) _ _ 5 Try.underlying22 Try.underlying5 Try.underlying9
      obtain ⟨ch, hch⟩ : ∃ ch, UInt8.ofNat (48 + x) = ch := ⟨_, rfl⟩
      rw [hch] at hadd hq2 hcv
      have hw2 : IntKind.i64.wrap (48 + (x : Int)) = 48 + (x : Int) := by rw [IntKind.wrap_i64]; omega
      have hw3 : IntKind.u8.wrap (48 + (x : Int)) = 48 + (x : Int) := by rw [IntKind.wrap_u8]; omega
      rw [show ((i0 + j : Nat) : Int) = (i0 : Int) + (j : Int) by omega, show ((1 : Nat) : Int) = 1 from rfl] at hread
      have HH := Lib.hid (And.intro hto (And.intro hq2 hq))
      rw [hq]
      clear hch hx hto hrd hq hq2
      go_wp2_with (first | (go_at_call 71; refine (hcount _).mono ?_; rintro e w1 ⟨rfl, rfl⟩) | (go_at_call 72; refine hread.mono ?_; rintro e w2 ⟨rfl, ht2⟩))
      go_roundw
      case rel => exact ⟨j + 1, by omega, by rw [HH.out.2.1], (HH.out.1.then ht2 (by simp)).alloc _⟩
      case measure =>
        have hl1 : (str (q ++ [ch])).size = j + 1 := by rw [← HH.out.2.1, str_size, List.length_take, HT.out.1]; omega
        have hl0 : (str q).size = j := hsj
        simp [hl1, hl0]
        omega
    · obtain rfl : j = t := by omega
      rw [List.take_of_length_le (by have := HT.out.1; omega)] at hsj ⊢
      have hw1 : IntKind.i64.wrap ((i0 : Int) + (j : Int)) = (i0 : Int) + (j : Int) := by rw [IntKind.wrap_i64]; omega
      have hTl : T.length ≤ 9223372036854775807 := by have := HT.out.1; omega
      have d0 := hto.cell c0 (by simp)
      have d1 := hto.cell c1 (by simp)
      have H1 := Lib.hid hto
      have hcond : (decide ((i0 : Int) + (j : Int) < 8 * (bs.length : Int)) = false) ∨ (decide ((i0 : Int) + (j : Int) < 8 * (bs.length : Int)) = true ∧ decide ((j : Int) < 24) = false) := by
        by_cases h1 : i0 + j < 8 * bs.length
        · exact .inr ⟨decide_eq_true (by omega), decide_eq_false (by omega)⟩
        · exact .inl (decide_eq_false (by omega))
      have hmix := Try.mixed
      clear hto d0 d1
      rcases hcond with hd1 | ⟨hd1, hd2⟩
      all_goals go_wp2_with (first | (go_at_call 71; refine (hcount _).mono ?_; rintro e w1 ⟨rfl, rfl⟩))
      all_goals clear hd1 hw1 hsj
      all_goals
        go_loopw [12] (fun i wr2 => ∃ k : Nat, k ≤ N ∧ i = .int .i64 (k : Int) ∧ Hid (∀ i', i' < k → (zs.getD i' ([], 0)).1.isPrefixOf T = false) ∧ OnlyIn [] w wr2) (fun i _ => N - (intOf i).toNat)
        case atStart => exact ⟨0, by omega, rfl, Lib.hid (fun i' h => absurd h (by omega)), H1.out⟩
        case round =>
          clear H1
          obtain ⟨k, hk, rfl, HZ, hto⟩ := hrel
          have d0 := hto.cell c0 (by simp)
          have d1 := hto.cell c1 (by simp)
          by_cases hlt2 : k < N
          · obtain ⟨g, off, g', off', rfl, rfl, e1, e2⟩ := HC.out k hlt2
            have f1 := hto.cell e1 (by simp)
            have f2 := hto.cell e2 (by simp)
            have hsl := HS.out k hlt2
            obtain ⟨s, hs⟩ : ∃ s, (zs.getD k ([], 0)).1 = s := ⟨_, rfl⟩
            obtain ⟨y, hy⟩ : ∃ y, (zs.getD k ([], 0)).2 = y := ⟨_, rfl⟩
            rw [hs] at f1 hsl
            rw [hy] at f2
            have hbeg := rbegins_any wr T s hTl (by omega)
            by_cases hp : s.isPrefixOf T = true
            · rw [hp] at hbeg
              have hres : R = (y, (s.length : Int), 0) := by
                rw [← HR.out, rgetF_hit (by rw [HN.out]; exact hlt2) HZ.out (by rw [hs]; exact hp), hs, hy]
              have HQ := Lib.hid (And.intro hres hto)
              have hss := str_size s
              clear e1 e2 hs hy hp hres hto HZ
              go_wp2_with (go_at_call 73; refine hbeg.mono ?_; rintro e w1 ⟨rfl, rfl⟩)
              go_quiet (fail)
              go_wp2_with fail
              go_ret3
              rw [HQ.out.1]
              exact ⟨by simp [hss], HQ.out.2.drewN _⟩
            · have hp' : s.isPrefixOf T = false := Bool.eq_false_iff.2 hp
              rw [hp'] at hbeg
              have HZ2 : Hid (∀ i', i' < k + 1 → (zs.getD i' ([], 0)).1.isPrefixOf T = false) := Lib.hid (fun i' h => by
                by_cases hik : i' = k
                · subst hik; rw [hs]; exact hp'
                · exact HZ.out i' (by omega))
              clear e1 e2 hs hy hp hp' HZ
              go_wp2_with (go_at_call 73; refine hbeg.mono ?_; rintro e w1 ⟨rfl, rfl⟩)
              go_roundw
              case rel => exact ⟨k + 1, by omega, by go_num, HZ2, hto⟩
              case measure => simp [intOf]; omega
          · obtain rfl : k = N := by omega
            have H1 := Lib.hid hto
            clear hto
            go_wp2_with fail
            clear d0 d1
            go_loopw [13] (fun i wr2 => ∃ m : Nat, m ≤ k ∧ i = .int .i64 (m : Int) ∧ Hid (∀ i', i' < m → T.isPrefixOf (zs.getD i' ([], 0)).1 = false) ∧ OnlyIn [] w wr2) (fun i _ => k - (intOf i).toNat)
            case atStart => exact ⟨0, by omega, rfl, Lib.hid (fun i' h => absurd h (by omega)), H1.out⟩
            case round =>
              clear H1
              obtain ⟨m, hm, rfl, HY, hto⟩ := hrel
              have d0 := hto.cell c0 (by simp)
              by_cases hlt3 : m < k
              · obtain ⟨g, off, g', off', rfl, rfl, e1, e2⟩ := HC.out m hlt3
                have f1 := hto.cell e1 (by simp)
                have hsl := HS.out m hlt3
                obtain ⟨s, hs⟩ : ∃ s, (zs.getD m ([], 0)).1 = s := ⟨_, rfl⟩
                rw [hs] at f1 hsl
                have hbeg := rbegins_any wr s T (by omega) hTl
                by_cases hp : T.isPrefixOf s = true
                · rw [hp] at hbeg
                  have hres : R = (0, 0, 5) := by
                    rw [← HR.out]
                    exact rgetF_more (by rw [HN.out]; exact HZ.out) (k := m) (by rw [HN.out]; exact hlt3) (by rw [hs]; exact hp)
                  have HQ := Lib.hid (And.intro hres hto)
                  clear e1 e2 hs hp hres hto HZ HY
                  go_wp2_with (go_at_call 73; refine hbeg.mono ?_; rintro e w1 ⟨rfl, rfl⟩)
                  go_ret3
                  rw [HQ.out.1]
                  exact ⟨rfl, HQ.out.2⟩
                · have hp' : T.isPrefixOf s = false := Bool.eq_false_iff.2 hp
                  rw [hp'] at hbeg
                  have HY2 : Hid (∀ i', i' < m + 1 → T.isPrefixOf (zs.getD i' ([], 0)).1 = false) := Lib.hid (fun i' h => by
                    by_cases hik : i' = m
                    · subst hik; rw [hs]; exact hp'
                    · exact HY.out i' (by omega))
                  clear e1 e2 hs hp hp' HY
                  go_wp2_with (go_at_call 73; refine hbeg.mono ?_; rintro e w1 ⟨rfl, rfl⟩)
                  go_roundw
                  case rel => exact ⟨m + 1, by omega, by go_num, HY2, hto⟩
                  case measure => simp [intOf]; omega
              · obtain rfl : m = k := by omega
                have hres : R = (0, 0, 7) := by
                  rw [← HR.out]
                  exact rgetF_code (by rw [HN.out]; exact HZ.out) (by rw [HN.out]; exact HY.out)
                have HQ := Lib.hid (And.intro hres hto)
                clear hres hto HZ HY
                go_wp2_with fail
                go_ret3
                rw [HQ.out.1]
                exact ⟨rfl, HQ.out.2⟩
end Go.Proofs.Ytheihohojmcbiaa
