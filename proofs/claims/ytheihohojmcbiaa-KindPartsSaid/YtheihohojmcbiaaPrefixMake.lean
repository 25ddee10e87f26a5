/-
  Package prefix: Make.
-/
import Derived.Test.YtheihohojmcbiaaPrefixPut
import Derived.Test.YtheihohojmcbiaaTxts
namespace Go.Mine
open Go.RowKit
/-- The first text of each number. -/
def told (zs : List (List UInt8 × Int)) : Int → Option ByteArray := fun x => (zs.find? fun c => c.2 == x).map fun c => str c.1
theorem told_nil : told [] = fun _ => none := rfl
theorem told_snoc (zs : List (List UInt8 × Int)) (s : List UInt8) (n : Int) : told (zs ++ [(s, n)]) = tellOnce (told zs) n (str s) := by
  funext x
  unfold tellOnce told tell
  rw [List.find?_append]
  by_cases hx : x = n
  · subst hx
    cases h : zs.find? fun c => c.2 == x with
    | none => simp
    | some c => simp [h]
  · have hnx : (n == x) = false := by simp; exact fun e => hx e.symm
    cases h : zs.find? fun c => c.2 == x with
    | none => split <;> simp [hnx, hx, h]
    | some c => split <;> simp [h, hx]
theorem putF_len (s : List Bool) : ∀ (t : List TNode) (a : Nat) (t' : List TNode) (a' : Nat), putF t a s = some (t', a') → t'.length ≤ t.length + s.length := by
  induction s with
  | nil => intro t a t' a' h; simp only [putF, Option.some.injEq, Prod.mk.injEq] at h; rw [h.1]; omega
  | cons x s ih =>
    intro t a t' a' h
    rw [putF] at h
    split at h
    · cases h
    · split at h
      · have := ih _ _ _ _ h
        simp only [grow, List.length_set, List.length_append, List.length_cons, List.length_nil] at this ⊢
        omega
      · have := ih _ _ _ _ h
        simp only [List.length_cons]
        omega
theorem put1_len {t t' : List TNode} {s : List Bool} {n : Int} (h : put1 t s n = some t') : t'.length ≤ t.length + s.length := by
  unfold put1 at h
  split at h
  · cases h
  · rename_i t1 a hp
    have := putF_len _ _ _ _ _ hp
    simp only at h
    split at h
    · cases h
    · injection h with h
      rw [← h, List.length_set]
      exact this
theorem OnlyIn.more {w w' w'' : World} (h : OnlyIn [] w w') (k : Below w.heap.size w' w'') : OnlyIn [] w w'' := OnlyIn.of_below (h.nil_below.trans k)
/-- Codes and numbers, as the tree law has them. -/
def kvOf (zs : List (List UInt8 × Int)) : KV := zs.map fun c => (bls c.1, c.2)
end Go.Mine
namespace Go.Proofs.Ytheihohojmcbiaa
open Go.RowKit Go.Mine

attribute [local go_sem] Oper.semAt_some

set_option maxRecDepth 100000 in
theorem bad1_any (w : World) (bs : List UInt8) (hl : bs.length ≤ 9223372036854775807) : Calls Try.prog 79 #[.string (str bs)] w fun e w' => e = .returned (.bool (!codeB bs)) ∧ w = w' := by
  have h := code_any w bs hl
  go_enter Try.func79, Try.ntmps79
  go_wp2_with (go_at_call 80; refine h.mono ?_; rintro e w1 ⟨rfl, rfl⟩)
  go_ret
  exact ⟨rfl, rfl⟩

set_option maxRecDepth 100000 in
theorem index_any (w : World) (v : Value) (l : List (List UInt8)) (hr : Rd w 1 v l.length (txtCells l)) (hs : ∀ s ∈ l, s.length ≤ 9223372036854775807) (hl : l.length ≤ 9223372036854775807) :
    Calls Try.prog 85 #[v, .func (.func 79) #[] #[]] w fun e w' => (∃ i : Int, e = .returned (.int .i64 i) ∧ decide (0 ≤ i) = !l.all codeB) ∧ w = w' := by
  obtain ⟨-, A, c, rfl, hc, hA⟩ := hr
  obtain ⟨N, hN⟩ : ∃ N, l.length = N := ⟨_, rfl⟩
  rw [hN] at hc hA hl ⊢
  have HL := Lib.hid (And.intro hN hs)
  clear hs hN
  go_enter Try.func85, Try.ntmps85
  go_wp2_with fail
  go_loop [5, 8] (fun _ i => ∃ k : Nat, k ≤ N ∧ i = .int .i64 (k : Int) ∧ Hid (∀ s ∈ l.take k, codeB s = true)) (fun _ i => N - (intOf i).toNat)
  case atStart => exact ⟨0, by omega, rfl, Lib.hid (fun s hs => by simp at hs)⟩
  case round =>
    obtain ⟨k, hk, rfl, HZ⟩ := hrel
    by_cases hlt : k < N
    · obtain ⟨g, off, rfl, hcell⟩ := hA (by omega)
      have hkl : k < l.length := by rw [HL.out.1]; exact hlt
      have c0 := hcell k _ (txtCells_get hkl)
      obtain ⟨s, hs⟩ : ∃ s, l[k]'hkl = s := ⟨_, rfl⟩
      rw [hs] at c0
      have hb := bad1_any w s (HL.out.2 s (by rw [← hs]; exact List.getElem_mem hkl))
      clear hcell hA
      by_cases hcs : codeB s = true
      · have HZ2 : Hid (∀ s ∈ l.take (k + 1), codeB s = true) := Lib.hid (fun u hu => by
          rw [List.take_add_one, List.getElem?_eq_getElem hkl, hs] at hu
          rcases List.mem_append.1 hu with h | h
          · exact HZ.out u h
          · simp at h; rw [h]; exact hcs)
        rw [hcs] at hb
        clear hcs hs
        go_wp2_with (go_at_call 79; refine hb.mono ?_; rintro e w1 ⟨rfl, rfl⟩)
        go_round
        case rel => exact ⟨k + 1, by omega, by go_num, HZ2⟩
        case measure => simp [intOf]; omega
      · have hcs' : codeB s = false := by simpa using hcs
        have hall : l.all codeB = false := by
          rw [List.all_eq_false]
          exact ⟨s, by rw [← hs]; exact List.getElem_mem hkl, hcs⟩
        have HALL := Lib.hid hall
        rw [hcs'] at hb
        clear hcs hs hcs' hall
        go_wp2_with (go_at_call 79; refine hb.mono ?_; rintro e w1 ⟨rfl, rfl⟩)
        go_ret
        exact ⟨⟨_, rfl, by rw [HALL.out]; simp⟩, rfl⟩
    · obtain rfl : k = N := by omega
      have hall : l.all codeB = true := by
        rw [List.all_eq_true]
        intro s hs
        exact HZ.out s (by rw [List.take_of_length_le (by have := HL.out.1; omega)]; exact hs)
      have HALL := Lib.hid hall
      clear hall hA
      go_wp2_with fail
      go_ret
      exact ⟨⟨_, rfl, by rw [HALL.out]; rfl⟩, rfl⟩
set_option maxRecDepth 100000 in
theorem contains_any (w : World) (v : Value) (l : List (List UInt8)) (hr : Rd w 1 v l.length (txtCells l)) (hs : ∀ s ∈ l, s.length ≤ 9223372036854775807) (hl : l.length ≤ 9223372036854775807) :
    Calls Try.prog 78 #[v, .func (.func 79) #[] #[]] w fun e w' => e = .returned (.bool (!l.all codeB)) ∧ w = w' := by
  have h := index_any w v l hr hs hl
  obtain ⟨x, hx⟩ : ∃ x, (!l.all codeB) = x := ⟨_, rfl⟩
  rw [hx] at h ⊢
  clear hr hs
  go_enter Try.func78, Try.ntmps78
  go_wp2_with (go_at_call 85; refine h.mono ?_; rintro e w1 ⟨⟨i, rfl, hi⟩, rfl⟩)
  go_ret
  exact ⟨by rw [← hi]; rfl, rfl⟩

/-- What Make leaves. -/
def MakeEnd (cs : List (List UInt8)) (ns : List Int) (w : World) (e : Ending) (w' : World) : Prop :=
  OnlyIn [] w w' ∧
    (((cs.length ≠ ns.length ∨ cs.length = 0 ∨ 300 < cs.length ∨ cs.all codeB = false) ∧ e = .returned (.tuple #[.pointer none, .int .i64 2])) ∨
     ((cs.length = ns.length ∧ 0 < cs.length ∧ cs.length ≤ 300 ∧ cs.all codeB = true) ∧
      ((build [TNode.mt] (kvOf (cs.zip ns)) = none ∧ e = .returned (.tuple #[.pointer none, .int .i64 14])) ∨
       ∃ t b v mb, build [TNode.mt] (kvOf (cs.zip ns)) = some t ∧ e = .returned (.tuple #[.pointer (some ⟨b, 0, none⟩), .int .i64 0]) ∧ Tr w' w.heap.size b v mb cs.length t (told (cs.zip ns)) cs.length)))

set_option maxRecDepth 100000 in
set_option maxHeartbeats 1000000 in
theorem Make_any (w : World) (cv nv : Value) (cs : List (List UInt8)) (ns : List Int) (hc : Rd w 1 cv cs.length (txtCells cs)) (hn : Rd w 1 nv ns.length (intCells ns)) (hs : ∀ s ∈ cs, s.length ≤ 9223372036854775807) (hcl : cs.length ≤ 9223372036854775807) (hnl : ns.length ≤ 9223372036854775807)
    (hb : ∀ z ∈ ns, -9223372036854775808 ≤ z ∧ z ≤ 9223372036854775807) :
    Calls Try.prog 67 #[cv, nv] w fun e w' => MakeEnd cs ns w e w' := by
  have hcon := contains_any w cv cs hc hs hcl
  obtain ⟨-, A, c, rfl, hcA, hA⟩ := hc
  obtain ⟨-, B, d, rfl, hdB, hB⟩ := hn
  obtain ⟨N, hN⟩ : ∃ N, cs.length = N := ⟨_, rfl⟩
  obtain ⟨M, hM⟩ : ∃ M, ns.length = M := ⟨_, rfl⟩
  rw [hN] at hcA hA hcl hcon ⊢
  rw [hM] at hdB hB hnl ⊢
  have HL := Lib.hid (And.intro hN (And.intro hM (And.intro hs hb)))
  clear hs hb hN hM
  by_cases h1 : N = M
  · by_cases h2 : N = 0
    · have hend : ∀ e w', e = .returned (.tuple #[.pointer none, .int .i64 2]) → w = w' → MakeEnd cs ns w e w' := by
        rintro e w' rfl rfl
        exact ⟨OnlyIn.refl _ _, .inl ⟨.inr (.inl (by rw [HL.out.1]; exact h2)), rfl⟩⟩
      have HE := Lib.hid hend
      subst h1
      subst h2
      clear hA hB hcon hend
      go_enter Try.func67, Try.ntmps67
      go_wp2_with fail
      go_ret2
      exact HE.out _ _ rfl rfl
    · subst h1
      have z0 : ((N : Int) == 0) = false := by simp; omega
      by_cases h3 : 300 < N
      · have hend : ∀ e w', e = .returned (.tuple #[.pointer none, .int .i64 2]) → w = w' → MakeEnd cs ns w e w' := by
          rintro e w' rfl rfl
          exact ⟨OnlyIn.refl _ _, .inl ⟨.inr (.inr (.inl (by rw [HL.out.1]; exact h3))), rfl⟩⟩
        have HE := Lib.hid hend
        have z3 : decide ((300 : Int) < (N : Int)) = true := decide_eq_true (by omega)
        clear hA hB hcon hend
        go_enter Try.func67, Try.ntmps67
        go_wp2_with fail
        go_ret2
        exact HE.out _ _ rfl rfl
      · have z3 : decide ((300 : Int) < (N : Int)) = false := decide_eq_false (by omega)
        by_cases h4 : cs.all codeB = true
        · rw [h4] at hcon
          have hcell : ∀ k (h : k < N), ∃ g off g' off', A = some ⟨g, off, none⟩ ∧ B = some ⟨g', off', none⟩ ∧ w.cell? ⟨g, off + k, none⟩ = some (.string (str (cs[k]'(by rw [HL.out.1]; exact h)))) ∧ w.cell? ⟨g', off' + k, none⟩ = some (.int .i64 (ns[k]'(by rw [HL.out.2.1]; exact h))) := by
            intro k h
            obtain ⟨g, off, e1, e2⟩ := hA (by omega)
            obtain ⟨g', off', e3, e4⟩ := hB (by omega)
            exact ⟨g, off, g', off', e1, e3, e2 k _ (txtCells_get _), e4 k _ (intCells_get _)⟩
          have HC := Lib.hid hcell
          have H4 := Lib.hid (And.intro h4 (And.intro h2 h3))
          have hmm := @run_makeMap Try.prog
          clear hA hB hcell h4
          go_enter Try.func67, Try.ntmps67
          go_wp2_with (go_at_call 78; refine hcon.mono ?_; rintro e w1 ⟨rfl, rfl⟩)
          generalize hw1 : World.alloc (World.alloc (World.alloc _ _) _) _ = w1
          obtain ⟨sz, hsz⟩ : ∃ sz, w.heap.size = sz := ⟨_, rfl⟩
          have hT0 : Tr w1 sz (sz + 1 + 1) (.slice (some ⟨sz, 0, none⟩) 1 1) (sz + 1) 0 [TNode.mt] (told []) 0 := by
            rw [← hw1, ← hsz]
            refine ⟨?_, ?_, ?_, by omega, by omega, WFt.new, by decide, by decide⟩
            · have := Blk.new ((w.alloc (.cells #[.int .i64 0, .int .i64 0, .bool false, .int .i64 0] 85)).alloc (.map #[] 0)) 89 [.slice (some ⟨w.heap.size, 0, none⟩) 1 1, .map (some (w.heap.size + 1)), .int .i64 0]
              simp only [World.size_alloc] at this
              exact this
            · exact ((Sl.lit w [.int .i64 0, .int .i64 0, .bool false, .int .i64 0] 85 1 rfl (by decide) (Nat.le_refl _)).alloc _).alloc _
            · have := (MapIs.made (w.alloc (.cells #[.int .i64 0, .int .i64 0, .bool false, .int .i64 0] 85)) Try.prog 3).alloc (.cells #[.slice (some ⟨w.heap.size, 0, none⟩) 1 1, .map (some (w.heap.size + 1)), .int .i64 0] 89)
              simp only [World.size_alloc] at this
              exact this
          have ho1 : OnlyIn [] w w1 := by rw [← hw1]; exact (((OnlyIn.refl _ _).alloc _).alloc _).alloc _
          clear hw1
          subst hsz
          go_loopw [7, 8, 35] (fun _ _ i wr => ∃ (k : Nat) (t' : List TNode) (v' : Value), k ≤ N ∧ i = .int .i64 (k : Int) ∧ t'.length ≤ 1 + 24 * k ∧ Hid (build [TNode.mt] (kvOf (cs.zip ns)) = build t' (kvOf ((cs.zip ns).drop k))) ∧
            Tr wr w.heap.size (w.heap.size + 1 + 1) v' (w.heap.size + 1) k t' (told ((cs.zip ns).take k)) k ∧ OnlyIn [] w wr) (fun _ _ i _ => N - (intOf i).toNat)
          case atStart => exact ⟨0, _, _, by omega, rfl, by simp, Lib.hid rfl, hT0, ho1⟩
          case round =>
            clear hT0 ho1
            obtain ⟨k, t', v', hk, rfl, htl, HP, hT, hto⟩ := hrel
            by_cases hlt : k < N
            · obtain ⟨g, off, g', off', rfl, rfl, c1, c2⟩ := HC.out k hlt
              have hck : k < cs.length := by rw [HL.out.1]; exact hlt
              have hnk : k < ns.length := by rw [HL.out.2.1]; exact hlt
              have hzk : k < (cs.zip ns).length := by rw [List.length_zip]; omega
              have d1 := hto.cell c1 (by simp)
              have d2 := hto.cell c2 (by simp)
              obtain ⟨s, hs⟩ : ∃ s, cs[k]'hck = s := ⟨_, rfl⟩
              obtain ⟨num, hnum⟩ : ∃ num, ns[k]'hnk = num := ⟨_, rfl⟩
              have hcode : codeB s = true := by rw [← hs]; exact List.all_eq_true.1 H4.out.1 _ (List.getElem_mem hck)
              obtain ⟨hbin, hs1, hs24⟩ := (codeB_iff s).1 hcode
              have hrange := HL.out.2.2.2 num (by rw [← hnum]; exact List.getElem_mem hnk)
              have hzip : (cs.zip ns)[k]'hzk = (s, num) := by rw [List.getElem_zip, hs, hnum]
              have hdrop : kvOf ((cs.zip ns).drop k) = (bls s, num) :: kvOf ((cs.zip ns).drop (k + 1)) := by rw [List.drop_eq_getElem_cons hzk, hzip]; rfl
              have htake : told ((cs.zip ns).take (k + 1)) = tellOnce (told ((cs.zip ns).take k)) num (str s) := by
                rw [List.take_add_one, List.getElem?_eq_getElem hzk, hzip]
                exact told_snoc _ _ _
              have hput := put_any wr hT (by have := hto.size; omega) s hbin hs24 (by omega) (by omega) (by omega) num hrange
              rw [hs] at d1
              rw [hnum] at d2
              cases hp : put1 t' (bls s) num with
              | none =>
                have hb0 : build [TNode.mt] (kvOf (cs.zip ns)) = none := by rw [HP.out, hdrop, build, hp]
                have hput2 := hput.mono (R' := fun e w2 => e = .returned (.bool false) ∧ Below w.heap.size wr w2) (fun e w2 h => by
                  rcases h with ⟨h1, ⟨-, h2⟩ | ⟨t2, v2, h2, -⟩⟩
                  · exact ⟨h2, h1⟩
                  · rw [hp] at h2; cases h2)
                have HQ := Lib.hid (And.intro hb0 hto)
                clear hput hb0 hto hp htake hdrop hzip hcode hbin HP
                go_wp2_with (go_at_call 81; refine hput2.mono ?_; rintro e w2 ⟨rfl, hbel⟩)
                go_ret2
                obtain ⟨hb0, hto⟩ := HQ.out
                exact (show MakeEnd cs ns w (.returned (.tuple #[.pointer none, .int .i64 14])) _ from ⟨hto.more hbel, .inr ⟨⟨by rw [HL.out.1, HL.out.2.1], by have := HL.out.1; omega, by have := HL.out.1; omega, H4.out.1⟩, .inl ⟨hb0, rfl⟩⟩⟩)
              | some t2 =>
                have hput2 := hput.mono (R' := fun e w2 => e = .returned (.bool true) ∧ Below w.heap.size wr w2 ∧ ∃ v2, Tr w2 w.heap.size (w.heap.size + 1 + 1) v2 (w.heap.size + 1) (k + 1) t2 (told ((cs.zip ns).take (k + 1))) (k + 1)) (fun e w2 h => by
                  rcases h with ⟨h1, ⟨h2, -⟩ | ⟨t3, v2, h2, h3, h4⟩⟩
                  · rw [hp] at h2; cases h2
                  · rw [hp] at h2; injection h2 with h2; subst h2
                    exact ⟨h3, h1, v2, by rw [htake]; exact h4⟩)
                have HQ := Lib.hid (And.intro (show build [TNode.mt] (kvOf (cs.zip ns)) = build t2 (kvOf ((cs.zip ns).drop (k + 1))) by rw [HP.out, hdrop, build, hp]) (And.intro hto (put1_len hp)))
                clear hput hto hp htake hdrop hzip hcode hbin HP
                go_wp2_with (go_at_call 81; refine hput2.mono ?_; rintro e w2 ⟨rfl, hbel, v2, hT2⟩)
                go_roundw
                case rel =>
                  obtain ⟨hb0, hto, hl2⟩ := HQ.out
                  rw [bls_length] at hl2
                  exact ⟨k + 1, t2, v2, by omega, by go_num, by omega, Lib.hid hb0, hT2, hto.more hbel⟩
                case measure => simp [intOf]; omega
            · obtain rfl : k = N := by omega
              have hlz : (cs.zip ns).length = k := by rw [List.length_zip, HL.out.1, HL.out.2.1, Nat.min_self]
              have hb0 : build [TNode.mt] (kvOf (cs.zip ns)) = some t' := by rw [HP.out, List.drop_eq_nil_of_le (by omega)]; rfl
              rw [List.take_of_length_le (by omega)] at hT
              have HQ := Lib.hid (And.intro hb0 (And.intro hto hT))
              clear hb0 hto hT HP hlz hcon HC
              go_wp2_with fail
              go_ret2
              obtain ⟨hb0, hto, hT⟩ := HQ.out
              exact (show MakeEnd cs ns w (.returned (.tuple #[.pointer (some ⟨w.heap.size + 1 + 1, 0, none⟩), .int .i64 0])) _ from ⟨hto, .inr ⟨⟨by rw [HL.out.1, HL.out.2.1], by have := HL.out.1; omega, by have := HL.out.1; omega, H4.out.1⟩, .inr ⟨t', _, v', _, hb0, rfl, by rw [HL.out.1]; exact hT⟩⟩⟩)
        · have h4' : cs.all codeB = false := by simpa using h4
          have hend : ∀ e w', e = .returned (.tuple #[.pointer none, .int .i64 2]) → w = w' → MakeEnd cs ns w e w' := by
            rintro e w' rfl rfl
            exact ⟨OnlyIn.refl _ _, .inl ⟨.inr (.inr (.inr h4')), rfl⟩⟩
          have HE := Lib.hid hend
          rw [h4'] at hcon
          clear hA hB hend h4 h4'
          go_enter Try.func67, Try.ntmps67
          go_wp2_with (go_at_call 78; refine hcon.mono ?_; rintro e w1 ⟨rfl, rfl⟩)
          go_ret2
          exact HE.out _ _ rfl rfl
  · have hend : ∀ e w', e = .returned (.tuple #[.pointer none, .int .i64 2]) → w = w' → MakeEnd cs ns w e w' := by
      rintro e w' rfl rfl
      exact ⟨OnlyIn.refl _ _, .inl ⟨.inl (by rw [HL.out.1, HL.out.2.1]; exact h1), rfl⟩⟩
    have HE := Lib.hid hend
    have hz : ((N : Int) == (M : Int)) = false := by simp; omega
    have hz2 : ((N : Int) != (M : Int)) = true := by simp; omega
    have hz3 : ¬ N = M := h1
    clear hA hB hcon hend h1
    go_enter Try.func67, Try.ntmps67
    go_wp2_with fail
    go_ret2
    exact HE.out _ _ rfl rfl
end Go.Proofs.Ytheihohojmcbiaa
