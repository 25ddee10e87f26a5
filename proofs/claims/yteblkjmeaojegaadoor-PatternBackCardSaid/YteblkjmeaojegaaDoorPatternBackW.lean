/-
  Law 07: PatternBack: the walk.
-/
import Derived.Test.YteblkjmeaojegaaDoorLaw07
import Derived.Test.YteblkjmeaojegaaDoorTreeSpec
import Derived.Test.YteblkjmeaojegaaDoorPenR
import Derived.Test.YteblkjmeaojegaaDoorKit
namespace Go.Mine
open Go.RowKit
theorem pget {n : Nat} (h : n < 63) : pcodes[n]? = some (pcodes.getD n []) ∧ pnums[n]? = some ((n : Int) + 1) := by
  have : ∀ m : Fin 63, pcodes[m.val]? = some (pcodes.getD m.val []) ∧ pnums[m.val]? = some ((m.val : Int) + 1) := by decide +kernel
  exact this ⟨n, h⟩
theorem pinj {n m : Nat} (hn : n < 63) (hm : m < 63) : pcodes.getD n [] = pcodes.getD m [] ↔ n = m := by
  have : ∀ a b : Fin 63, pcodes.getD a.val [] = pcodes.getD b.val [] ↔ a.val = b.val := by decide +kernel
  exact this ⟨n, hn⟩ ⟨m, hm⟩
theorem plen {n : Nat} (hn : n < 63) : 3 ≤ (pcodes.getD n []).length ∧ (pcodes.getD n []).length ≤ 9 := by
  have : ∀ a : Fin 63, 3 ≤ (pcodes.getD a.val []).length ∧ (pcodes.getD a.val []).length ≤ 9 := by decide +kernel
  exact this ⟨n, hn⟩
theorem take_add1 {α : Type} (l : List α) {k : Nat} (hk : k < l.length) : l.take (k + 1) = l.take k ++ [l[k]'hk] := List.take_succ_eq_append_getElem hk
/-- The codes of a list of choices. -/
def pcs (l : List Nat) : List (List UInt8) := l.map fun n => pcodes.getD n []
theorem pcs_take (l : List Nat) {k : Nat} (hk : k < l.length) : pcs (l.take (k + 1)) = pcs (l.take k) ++ [pcodes.getD (l[k]'hk) []] := by
  unfold pcs
  rw [take_add1 l hk, List.map_append]
  rfl
theorem pcs_get (l : List Nat) {k j : Nat} (hj : j < k) (hk : k ≤ l.length) : (txtCells (pcs (l.take k)))[j]? = some (.string (str (pcodes.getD (l.getD j 0) []))) := by
  have hjl : j < l.length := by omega
  unfold txtCells pcs
  have e : l.getD j 0 = l[j]'hjl := by rw [List.getD_eq_getElem?_getD, List.getElem?_eq_getElem hjl]; rfl
  rw [e, List.getElem?_map, List.getElem?_map, List.getElem?_take_of_lt hj, List.getElem?_eq_getElem hjl]
  rfl
end Go.Mine
namespace Go.Proofs.YteblkjmeaojegaaDoor
open Go.RowKit Go.Mine

theorem pput {n : Nat} (h : n < 63) : told pz ((n : Int) + 1) = some (str (pcodes.getD n [])) := told_at (by decide) (by decide +kernel) (pget h).1 (pget h).2
theorem pputOf {n : Nat} (h : n < 63) : putOf (told pz) ((n : Int) + 1) = (str (pcodes.getD n []), 0) := by unfold putOf; rw [pput h]

section
variable {w0 w w' : World} {b base n : Nat} {l : List Nat} {v : Value} {xs : List Value}
theorem pen_apart {pv : Value} (h1 : PenAt w (b + 1) b pv l) (hs : Sl w base 9 1 v n xs) {g : Nat} (hg : v.ownBlock = some g) : g ≠ b ∧ pv.ownBlock ≠ some g := by
  refine ⟨fun e => hs.ne_blk h1.blk (by decide) (by rw [hg, e]), fun e => ?_⟩
  obtain ⟨c1, e1⟩ := hs.type_ g hg
  obtain ⟨c2, e2⟩ := h1.sl.type_ g e
  rw [e1] at e2
  injection e2 with e2
  injection e2 with _ e2
  exact absurd e2 (by decide)
set_option maxRecDepth 100000 in
theorem Code_RS (h : PenR w0 w b l) (hs : Sl w base 9 1 v n xs) (bs : List UInt8) (hb : Is01 bs) (hl : l.length + bs.length ≤ 16777216) :
    Calls Tryd.prog 24 #[.pointer (some ⟨b, 0, none⟩), .string (str bs)] w fun e w' => e = .returned (.int .i64 0) ∧ PenR w0 w' b (l ++ digs bs) ∧ Sl w' base 9 1 v n xs := by
  obtain ⟨pv, h1, h2, h3⟩ := h
  refine (Code_ok w h1 bs hb hl h1.blk.lt).mono fun _ _ ⟨he, v', hP, ht, _⟩ => ⟨he, PenR.turn h1 h2 h3 hP ht, hs.only ht fun g hg hm => ?_⟩
  obtain ⟨e1, e2⟩ := pen_apart h1 hs hg
  simp only [List.mem_cons, Option.mem_toList] at hm
  rcases hm with hm | hm
  · exact e1 hm
  · exact e2 hm
theorem PenR.grown (h : PenR w0 w b l) (hs : Sl w base 9 1 v n xs) (hb : w0.heap.size ≤ base) (hg : w.grownBy w' v.ownBlock) : PenR w0 w' b l := by
  obtain ⟨pv, h1, h2, h3⟩ := h
  have ht : OnlyIn v.ownBlock.toList w w' := (OnlyIn.refl _ _).grown hg (fun g hg => .inl (by simp [hg]))
  refine ⟨pv, h1.only ht (fun hm => ?_) (fun g hg hm => ?_), h2.then ht (fun j hj => .inr ?_), h3⟩
  · simp only [Option.mem_toList] at hm
    exact (pen_apart h1 hs hm).1 rfl
  · simp only [Option.mem_toList] at hm
    exact (pen_apart h1 hs hm).2 hg
  · simp only [Option.mem_toList] at hj
    have := (hs.own_lt j hj).1
    omega
set_option maxRecDepth 100000 in
theorem Bytes_RS (h : PenR w0 w b l) : Calls Tryd.prog 25 #[.pointer (some ⟨b, 0, none⟩)] w fun e w' => ∃ u, e = .returned u ∧ Sl w' w.heap.size 5 1 u (pack l).length (byteCells (pack l)) ∧ PenR w0 w' b l ∧ OnlyIn [] w w' := by
  have h' := h
  obtain ⟨v, h1, h2, h3⟩ := h
  exact (Bytes_any w h1).mono fun _ _ ⟨u, he, hs, ht⟩ => ⟨u, he, hs, h'.step ht, ht⟩
end

set_option maxRecDepth 100000 in
set_option maxHeartbeats 4000000 in
theorem PatternBack_walk {w : World} (hsp : Spaced w) (y : Value × List Int) (hy : Rd w 1 y.1 y.2.length (intCells y.2) ∧ (∀ z ∈ y.2, -9223372036854775808 ≤ z ∧ z ≤ 9223372036854775807) ∧ y.2.length ≤ maxLen) :
    Calls Tryd.prog 8 #[y.1] w fun e w' => e = .returned (.bool true) ∧ OnlyIn [] w w' := by
  obtain ⟨nv, ns⟩ := y
  obtain ⟨hrn, hnb, hnl⟩ := hy
  simp only at hrn hnb hnl ⊢
  simp only [maxLen] at hnl
  obtain ⟨E, f, rfl, hff, hcellN⟩ : ∃ A c, nv = .slice A ns.length c ∧ ns.length ≤ c ∧ ∀ k, k < ns.length → ∃ g off, A = some ⟨g, off, none⟩ ∧ w.cell? ⟨g, off + k, none⟩ = some (.int .i64 (ns.getD k 0)) := by
    obtain ⟨-, A, c, h1, h2, hA⟩ := hrn
    refine ⟨A, c, h1, h2, fun k hk => ?_⟩
    obtain ⟨g, off, e1, e2⟩ := hA (by omega)
    refine ⟨g, off, e1, ?_⟩
    rw [List.getD_eq_getElem?_getD, List.getElem?_eq_getElem hk]
    exact e2 k _ (intCells_get hk)
  have hkn := known07 hsp
  have hnp := fun w1 (ho : OnlyIn [] w w1) => NewPen_R w w1 ho
  obtain ⟨i0, hi0, hz0, hz1, hz2⟩ := info_parts Tryd.infoStr
  by_cases h60 : 60 < ns.length
  · have hd : decide ((60 : Int) < (ns.length : Int)) = true := by simp; omega
    clear hrn hnb hcellN
    go_enter Tryd.func8, Tryd.ntmps8
    go_wp2_with (first | (go_at_call 5; refine hkn.mono ?_; rintro e w1 ⟨rfl, ht⟩) | (go_at_call 23; refine (hnp _ ht).mono ?_; rintro e w4 ⟨pb, rfl, hPR⟩))
    go_ret
    exact ⟨rfl, hPR.only⟩
  have hd1 : decide ((60 : Int) < (ns.length : Int)) = false := by simp; omega
  obtain ⟨M, hM⟩ : ∃ M, ns.length = M := ⟨_, rfl⟩
  rw [hM] at hcellN
  have HP := Lib.hid (And.intro hcellN (And.intro hM hnb))
  rw [hM] at hnl hff h60 hd1 ⊢
  have HSP := Lib.hid hsp
  clear hM hrn hcellN hnb hsp
  go_enter Tryd.func8, Tryd.ntmps8
  go_wp2_with (first | (go_at_call 5; refine hkn.mono ?_; rintro e w1 ⟨rfl, ht⟩; clear hkn) | (go_at_call 23; refine (hnp _ ht).mono ?_; rintro e w4 ⟨pb, rfl, hPR⟩; clear hnp))
  clear ht
  obtain ⟨l, hl⟩ : ∃ l : List Nat, l = ns.map (pickN 63) := ⟨_, rfl⟩
  have hll : l.length = M := by rw [hl, List.length_map, HP.out.2.1]
  have hlk : ∀ k, k < M → ns.getD k 0 % 63 = (l.getD k 0 : Int) ∧ l.getD k 0 < 63 ∧ (-9223372036854775808 ≤ ns.getD k 0 ∧ ns.getD k 0 ≤ 9223372036854775807) := fun k hk => by
    have hkn : k < ns.length := by rw [HP.out.2.1]; exact hk
    have e1 : ns.getD k 0 = ns[k]'hkn := by rw [List.getD_eq_getElem?_getD, List.getElem?_eq_getElem hkn]; rfl
    have e2 : l.getD k 0 = pickN 63 (ns[k]'hkn) := by rw [hl, List.getD_eq_getElem?_getD, List.getElem?_map, List.getElem?_eq_getElem hkn]; rfl
    rw [e1, e2]
    exact ⟨pickN_eq (by decide) _, pickN_lt (by decide) _, HP.out.2.2 _ (List.getElem_mem hkn)⟩
  have HLL := Lib.hid (And.intro hll hlk)
  clear hl hll hlk
  go_loopw [5, 6, 7, 8, 9] (fun u i _ _ _ wr => ∃ (k : Nat) (A : Option Addr) (c : Nat), k ≤ M ∧ i = .int .i64 (k : Int) ∧ u = .slice A k c ∧ Sl wr w.heap.size 9 1 (.slice A k c) k (txtCells (pcs (l.take k))) ∧ PenR w wr pb (wrote pcodes (l.take k))) (fun _ i _ _ _ _ => M - (intOf i).toNat)
  case atStart => exact ⟨0, none, 0, by omega, rfl, rfl, Sl.nil _ _ _ _, by simpa [wrote] using hPR⟩
  case round =>
    clear hPR
    obtain ⟨k, A, c, hk, rfl, rfl, hS, hPR⟩ := hrel
    have hon := hPR.only
    by_cases hkM : k < M
    · obtain ⟨h1, h2, h3⟩ := HLL.out.2 k hkM
      obtain ⟨g2, off2, rfl, c1⟩ := HP.out.1 k hkM
      have c1 := hon.cell c1 (by simp)
      have hpk := fun w9 => Pick_any (ns.getD k 0) 63 w9 (by omega) (by omega) h3.1 h3.2
      rw [h1] at hpk
      obtain ⟨X, hX⟩ : ∃ X, ns.getD k 0 = X := ⟨_, rfl⟩
      rw [hX] at hpk c1
      have hX' := hX
      obtain ⟨n, hn⟩ : ∃ n, l.getD k 0 = n := ⟨_, rfl⟩
      rw [hn] at hpk h2
      have hkl : k < l.length := by rw [HLL.out.1]; exact hkM
      have hln : l[k]'hkl = n := by rw [← hn, List.getD_eq_getElem?_getD, List.getElem?_eq_getElem hkl]; rfl
      have hput := pPut_any wr (HSP.out.only hon) (1 + (n : Int)) (by omega)
      rw [show (1 : Int) + (n : Int) = (n : Int) + 1 by omega, pputOf h2] at hput
      simp only at hput
      have hcode : codeB (pcodes.getD n []) = true := List.all_eq_true.1 pcodes_ok _ (List.mem_of_getElem? (pget h2).1)
      have hw := wrote_take pcodes l hkl
      rw [hln] at hw
      have hpt := pcs_take l hkl
      rw [hln] at hpt
      have hwl := wrote_length_le pcodes (m := 9) (by decide) (l.take k)
      rw [List.length_take, HLL.out.1] at hwl
      have hpc := fun w9 (hP : PenR w w9 pb (wrote pcodes (l.take k))) (hS9 : Sl w9 w.heap.size 9 1 (.slice A k c) k (txtCells (pcs (l.take k)))) => Code_RS hP hS9 (pcodes.getD n []) ((codeB_iff _).1 hcode).1 (by have := ((codeB_iff _).1 hcode).2.2; omega)
      rw [← hw] at hpc
      have hinj : ∀ j, j < k → ((str (pcodes.getD n [])).toList == (str (pcodes.getD (l.getD j 0) [])).toList) = ((n : Int) == ((l.getD j 0 : Nat) : Int)) := fun j hj => by
        have h5 := (HLL.out.2 j (by omega)).2.1
        rw [str_beq]
        by_cases he : n = l.getD j 0
        · rw [decide_eq_true ((pinj h2 h5).2 he), he]; simp
        · rw [decide_eq_false (fun e => he ((pinj h2 h5).1 e))]
          symm
          simp only [beq_eq_false_iff_ne, ne_eq]
          omega
      obtain ⟨s, hs⟩ : ∃ s, pcodes.getD n [] = s := ⟨_, rfl⟩
      rw [hs] at hput hpc hpt hinj
      have hw1 : IntKind.i64.wrap (1 + (n : Int)) = (n : Int) + 1 := by rw [IntKind.wrap_i64]; omega
      have hw2 : (1 : Int) + (n : Int) = (n : Int) + 1 := by omega
      have HR := Lib.hid (And.intro hPR (And.intro hS (And.intro hpt hinj)))
      have HC := Lib.hid hpc
      clear hPR hS hpt hw hwl hcode hs hln hn hX h1 hon hkl hinj hpc
      go_wp2_with (first | (go_at_call 22; refine (hpk _).mono ?_; rintro e w6 ⟨rfl, rfl⟩) | (go_at_call 14; refine hput.mono ?_; rintro e w7 ⟨rfl, ht7⟩; have hpc := HC.out _ (HR.out.1.step ht7) (HR.out.2.1.only ht7 (by simp))) | (go_at_call 24; refine hpc.mono ?_; rintro e w8 ⟨rfl, hP8, hS8⟩))
      clear hput hpc ht7
      have c2 := hP8.only
      go_loopw [9] (fun j wr2 => ∃ q : Nat, q ≤ k ∧ j = .int .i64 (q : Int) ∧ OnlyIn [] w8 wr2) (fun j _ => k - (intOf j).toNat)
      case atStart => exact ⟨0, by omega, rfl, OnlyIn.refl _ _⟩
      case round =>
        obtain ⟨q, hq, rfl, hto⟩ := hrel
        by_cases hqk : q < k
        · obtain ⟨h1, h5, h6⟩ := HLL.out.2 q (by omega)
          obtain ⟨g3, off3, he3, d1⟩ := HP.out.1 q (by omega)
          injection he3 with he3
          injection he3 with hg hoff _
          subst hg hoff
          obtain ⟨g4, off4, he4, d0⟩ := HP.out.1 k hkM
          injection he4 with he4
          injection he4 with hg hoff _
          subst hg hoff
          have d0 := (c2.trans hto).cell d0 (by simp)
          have d1 := (c2.trans hto).cell d1 (by simp)
          have hq2 := fun w9 => Pick_any (ns.getD q 0) 63 w9 (by omega) (by omega) h6.1 h6.2
          rw [h1] at hq2
          have hin := HR.out.2.2.2 q hqk
          have hS9 := hS8.only hto (by simp)
          obtain ⟨gs, offs, caps, hv, -, -, hcap⟩ := hS9.form (by omega)
          injection hv with hA _ hc
          subst hA hc
          have d2 := hS9.cell_at rfl (pcs_get l hqk (by rw [HLL.out.1]; omega))
          obtain ⟨Y, hY⟩ : ∃ Y, ns.getD q 0 = Y := ⟨_, rfl⟩
          rw [hY] at hq2 d1
          rw [hX'] at d0
          obtain ⟨m, hm⟩ : ∃ m, l.getD q 0 = m := ⟨_, rfl⟩
          rw [hm] at hq2 hin d2
          obtain ⟨t, ht⟩ : ∃ t, pcodes.getD m [] = t := ⟨_, rfl⟩
          rw [ht] at hin d2
          have hne : (((str s).toList == (str t).toList) != ((n : Int) == (m : Int))) = false := by rw [hin]; simp
          have hne2 : (!(((str s).toList == (str t).toList) == ((n : Int) == (m : Int)))) = false := by rw [hin]; simp
          have hqM : q < M := by omega
          have HN := Lib.hid hto
          clear ht hm hY hS9 h1 h5 h6 hin hto
          have hP : ∀ (x r : Int) (W : World), (x = X ∧ r = (n : Int)) ∨ (x = Y ∧ r = (m : Int)) → Calls Tryd.prog 22 #[.int .i64 x, .int .i64 63] W fun e w' => e = .returned (.int .i64 r) ∧ W = w' := by
            rintro x r W (⟨rfl, rfl⟩ | ⟨rfl, rfl⟩)
            · exact hpk W
            · exact hq2 W
          go_wp2_with fail
          (refine Go.Mine.wp_region_inv (Go.Mine.OnlyIn [] _) (by kernel_rfl) (by kernel_rfl) ((Go.Mine.OnlyIn.refl _ _).drew) ?_; (repeat (first | (refine Go.Mine.wpInv_run _ (by first | rfl | go_simp) (fun W hW => by (have q0 := hW.cell d0 (by simp); have q1 := hW.cell d1 (by simp); have q2 := hW.cell d2 (by simp); go_simp; first | exact ⟨rfl, hW⟩ | exact rfl | (simp only [Go.Mine.Oper.invUpon]; exact (hP _ _ W (by first | exact .inl ⟨rfl, rfl⟩ | exact .inr ⟨rfl, rfl⟩)).mono (fun e w'' h => ⟨h.1, by rw [← h.2]; exact hW⟩)))) ?_; go_simp) | (refine Go.Mine.wpInv_skip (by first | rfl | go_simp) ?_; go_simp))); refine Go.Mine.wpInv_nil ?_; intro W hW; have q0 := hW.cell d0 (by simp); have q1 := hW.cell d1 (by simp); have q2 := hW.cell d2 (by simp))
          go_wp2_with fail
          go_roundw
          case rel => exact ⟨q + 1, by omega, by go_num, HN.out.trans hW⟩
          case measure => simp [intOf]; omega
        · obtain rfl : q = k := by omega
          have hS9 := hS8.only hto (by simp)
          have hP9 := hP8.step hto
          have HZ := Lib.hid (And.intro hS9 (And.intro hP9 hto))
          clear hS9 hP9
          go_wp2_with (at_builtin; refine wpList_append_sl rfl _ _ 42 rfl w.heap.size 9 i0 _ 1 16 Tryd.underlying42 hi0 hz0 hz1 hz2 rfl (by decide) (.slice A q c) q (txtCells (pcs (l.take q))) rfl ((hS8.only hto (by simp)).alloc _) _ 1 (txtCells [s]) rfl (Rd.lit wr (txtCells [s]) 9 1 rfl) (txtCells_one _) (by simp only [maxLen]; omega) (by omega) (by have := (c2.trans hto).size; simp; omega) ?_; intro v5 w5 hs5 hg5 hat5)
          obtain ⟨A5, c5, rfl, hc5⟩ := hs5.val
          have hfin := PenR.grown (HZ.out.2.1.step ((OnlyIn.refl [] wr).alloc (.cells (txtCells [s]).toArray 9))) (HZ.out.1.alloc (.cells (txtCells [s]).toArray 9)) (Nat.le_refl _) hg5
          rw [← txtCells_append, ← HR.out.2.2.1] at hs5
          have HF := Lib.hid (And.intro hs5 hfin)
          clear hs5 hg5 hat5 hfin hS8 hto hP8
          go_wp2_with fail
          go_roundw
          case rel => exact ⟨q + 1, A5, c5, by omega, by go_num, rfl, HF.out.1, HF.out.2⟩
          case measure => simp [intOf]; omega
    · obtain rfl : M = k := by omega
      have htk : l.take M = l := List.take_of_length_le (by rw [HLL.out.1]; exact Nat.le_refl _)
      rw [htk] at hPR
      have hby := Bytes_RS hPR
      have hbin := hPR.bin
      have hwl := wrote_length_le pcodes (m := 9) (by decide) l
      rw [HLL.out.1] at hwl
      have HB0 := Lib.hid (And.intro hbin (And.intro hwl hS))
      clear hPR htk hbin hwl hon hS
      go_wp2_with (go_at_call 25; refine hby.mono ?_; rintro e w6 ⟨u, rfl, hsu, hP6, ht6⟩)
      have hS6 := HB0.out.2.2.only ht6 (by simp)
      obtain ⟨bs, hbs⟩ : ∃ bs, pack (wrote pcodes l) = bs := ⟨_, rfl⟩
      have hbl : bs.length ≤ 1000 := by rw [← hbs, pack_length]; have := HB0.out.2.1; omega
      rw [hbs] at hsu
      obtain ⟨NB, hNB⟩ : ∃ NB, bs.length = NB := ⟨_, rfl⟩
      rw [hNB] at hsu hbl
      obtain ⟨U, cu, rfl, hcu⟩ := hsu.val
      have hrd6 := Rd.of_sl hsu
      have hMc : M ≤ c := by
        obtain ⟨_, _, hv, hc⟩ := hS6.val
        injection hv with _ _ hc'
        omega
      have HB := Lib.hid (And.intro hbs (And.intro hNB (And.intro hrd6 (And.intro hP6 hS6))))
      clear hbs hNB hrd6 hsu hP6 hby hS6 ht6
      go_wp2_with fail
      go_loopw [11, 12, 13, 14, 15] (fun a i _ _ _ wr => ∃ k : Nat, k ≤ M ∧ i = .int .i64 (k : Int) ∧ a = .int .i64 ((wrote pcodes (l.take k)).length : Int) ∧ OnlyIn [] w6 wr) (fun _ i _ _ _ _ => M - (intOf i).toNat)
      case atStart => exact ⟨0, by omega, rfl, by simp [wrote], OnlyIn.refl _ _⟩
      case round =>
        obtain ⟨k, hk, rfl, rfl, ht6⟩ := hrel
        obtain ⟨hbs, hNB, hrd6, hP6, hS6⟩ := HB.out
        have hon := hP6.only.trans ht6
        by_cases hkM : k < M
        · obtain ⟨h1, h2, h3⟩ := HLL.out.2 k hkM
          obtain ⟨g2, off2, rfl, c1⟩ := HP.out.1 k hkM
          have c1 := hon.cell c1 (by simp)
          have hpk := fun w9 => Pick_any (ns.getD k 0) 63 w9 (by omega) (by omega) h3.1 h3.2
          rw [h1] at hpk
          obtain ⟨X, hX⟩ : ∃ X, ns.getD k 0 = X := ⟨_, rfl⟩
          rw [hX] at hpk c1
          have hkl : k < l.length := by rw [HLL.out.1]; exact hkM
          have hSr := hS6.only ht6 (by simp)
          obtain ⟨gs, offs, caps, hv, -, -, hcap⟩ := hSr.form (by omega)
          injection hv with hA _ hc
          subst hA hc
          have d2 := hSr.cell_at rfl (pcs_get l hkM (by rw [HLL.out.1]; exact Nat.le_refl _))
          obtain ⟨n, hn⟩ : ∃ n, l.getD k 0 = n := ⟨_, rfl⟩
          rw [hn] at hpk h2 d2
          have hln : l[k]'hkl = n := by rw [← hn, List.getD_eq_getElem?_getD, List.getElem?_eq_getElem hkl]; rfl
          have hcode : codeB (pcodes.getD n []) = true := List.all_eq_true.1 pcodes_ok _ (List.mem_of_getElem? (pget h2).1)
          have hpl := plen h2
          have hw := wrote_take pcodes l hkl
          have hsp := wrote_split pcodes l hkl
          rw [hln] at hw hsp
          obtain ⟨s, hs⟩ : ∃ s, pcodes.getD n [] = s := ⟨_, rfl⟩
          have hks := (pget h2).1
          rw [hs] at hcode hw hsp hks hpl d2
          obtain ⟨a, ha⟩ : ∃ a, (wrote pcodes (l.take k)).length = a := ⟨_, rfl⟩
          obtain ⟨z, hz⟩ : ∃ z, s.length = z := ⟨_, rfl⟩
          have hss := str_size s
          rw [hz] at hss hpl
          have hbin := HB0.out.1
          have hwl := HB0.out.2.1
          have hlen : (wrote pcodes l).length = a + z + (wrote pcodes (l.drop (k + 1))).length := by rw [hsp, List.length_append, List.length_append, digs_length, ha, hz]
          have hwlen : (wrote pcodes (l.take (k + 1))).length = a + z := by rw [hw, List.length_append, digs_length, ha, hz]
          rw [hsp] at hbs hbin
          have hhit := get_hit (t := PT) (by decide) pcodes_ok pbuild hks (pget h2).2 (pack_code (BinT.of_code hcode) hbin)
          rw [hbs, ha, hz] at hhit
          have hget := fun w9 (ho : OnlyIn [] w6 w9) => pGet_any w9 (HSP.out.only (hP6.only.trans ho)) (.slice U NB cu) bs (by rw [hNB]; exact hrd6.cells fun p u hp => ho.cell hp (by simp)) (by omega) (a : Int) (by omega)
          have hgt : getT PT bs (a : Int) = ((n : Int) + 1, (z : Int), 0) := by
            unfold getT
            rw [if_neg (by omega), Int.toNat_natCast]
            exact hhit
          rw [hgt] at hget
          simp only at hget
          have hget := hget _ ht6
          have hw1 : IntKind.i64.wrap (1 + (n : Int)) = (n : Int) + 1 := by rw [IntKind.wrap_i64]; omega
          have hw2 : (1 : Int) + (n : Int) = (n : Int) + 1 := by omega
          have b1 : ((n : Int) + 1 != (n : Int) + 1) = false := by simp
          have b2 : ((z : Int) != (z : Int)) = false := by simp
          have b3 : decide ((z : Int) < 3) = false := decide_eq_false (by omega)
          have b4 : decide ((9 : Int) < (z : Int)) = false := decide_eq_false (by omega)
          have hab : a ≤ 1000 := by omega
          have hzb : z ≤ 24 := by omega
          rw [ha]
          obtain ⟨S, hSS⟩ : ∃ S, str s = S := ⟨_, rfl⟩
          rw [hSS] at hss d2
          have HNX := Lib.hid (And.intro hwlen ht6)
          clear hbs hNB hrd6 hP6 hon h1 h3 hX hn hkl hln hcode hw hsp hs hks ha hz hbin hwl hlen hwlen hhit hgt hS6 hSr hSS hpl
          go_wp2_with (first | (go_at_call 22; refine (hpk _).mono ?_; rintro e w7 ⟨rfl, rfl⟩) | (go_at_call 11; refine hget.mono ?_; rintro e w9 ⟨rfl, ht9⟩; have d3 := ht9.cell d2 (by simp); have c3 := ht9.cell c1 (by simp); clear d2 c1))
          go_roundw
          case rel => exact ⟨k + 1, by omega, by go_num, by rw [HNX.out.1]; go_num, HNX.out.2.trans ht9⟩
          case measure => simp [intOf]; omega
        · obtain rfl : M = k := by omega
          have htk : l.take M = l := List.take_of_length_le (by rw [HLL.out.1]; exact Nat.le_refl _)
          rw [htk]
          have hlen2 := Len_R (hP6.step ht6)
          obtain ⟨a, ha⟩ : ∃ a, (wrote pcodes l).length = a := ⟨_, rfl⟩
          rw [ha] at hlen2 ⊢
          have b1 : ((a : Int) == (a : Int)) = true := by simp
          have HO := Lib.hid hon
          clear hbs hNB hrd6 hP6 hon htk ha ht6 hS6
          go_wp2_with (go_at_call 26; refine hlen2.mono ?_; rintro e w7 ⟨rfl, rfl⟩)
          go_ret
          exact ⟨rfl, HO.out⟩
end Go.Proofs.YteblkjmeaojegaaDoor
