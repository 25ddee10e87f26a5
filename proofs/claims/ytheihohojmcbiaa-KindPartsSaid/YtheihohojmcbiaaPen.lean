/-
  Package bits: the pen.
-/
import Derived.Test.YtheihohojmcbiaaBits
import Derived.Test.YtheihohojmcbiaaKitBytes
import Derived.Test.YtheihohojmcbiaaOwn
import Derived.Lib.SliceRun
namespace Go.Mine
open Go.RowKit
/-- The bytes ahead of a bit more: with room for it. -/
def roomed (l : List Nat) : List UInt8 := if l.length % 8 = 0 then pack l ++ [0] else pack l
theorem roomed_length (l : List Nat) : (roomed l).length = l.length / 8 + 1 := by
  unfold roomed
  split <;> simp [pack_length] <;> omega
theorem roomed_get {l : List Nat} (h : Bin l) : (roomed l)[l.length / 8]? = some (UInt8.ofNat (byteN l (l.length / 8))) := by
  unfold roomed
  split
  · rename_i h0
    have hz : ∀ i, l.length ≤ i → l.getD i 0 = 0 := fun i hi => by rw [List.getD_eq_getElem?_getD, List.getElem?_eq_none hi]; rfl
    have hb : byteN l (l.length / 8) = 0 := by
      unfold byteN
      rw [hz _ (by omega), hz _ (by omega), hz _ (by omega), hz _ (by omega), hz _ (by omega), hz _ (by omega), hz _ (by omega), hz _ (by omega)]
    rw [List.getElem?_append_right (by rw [pack_length]; omega), pack_length, show l.length / 8 - (l.length + 7) / 8 = 0 by omega, hb]
    rfl
  · exact pack_get l _ (by omega)
theorem pack_snoc (l : List Nat) (x : Nat) : pack (l ++ [x]) = (roomed l).set (l.length / 8) (UInt8.ofNat (byteN l (l.length / 8) + x * 2 ^ (7 - l.length % 8))) := by
  unfold roomed
  by_cases h0 : l.length % 8 = 0
  · rw [if_pos h0, pack_snoc_new l x h0]
    have hz : ∀ i, l.length ≤ i → l.getD i 0 = 0 := fun i hi => by rw [List.getD_eq_getElem?_getD, List.getElem?_eq_none hi]; rfl
    have hb : byteN l (l.length / 8) = 0 := by
      unfold byteN
      rw [hz _ (by omega), hz _ (by omega), hz _ (by omega), hz _ (by omega), hz _ (by omega), hz _ (by omega), hz _ (by omega), hz _ (by omega)]
    have hl : (pack l).length = l.length / 8 := by rw [pack_length]; omega
    rw [← hl, List.set_append_right _ _ (Nat.le_refl _), hl, hb, h0]
    simp
  · rw [if_neg h0, pack_snoc_in l x h0]
theorem or_u8 (a b : Nat) (ha : a < 256) (hb : b < 256) : bits .or .u8 (a : Int) (b : Int) = ((a ||| b : Nat) : Int) := by
  have hx : a ||| b < 2 ^ 8 := Nat.or_lt_two_pow (by omega) (by omega)
  show IntKind.u8.wrap ((BitVec.ofInt 8 (a : Int) ||| BitVec.ofInt 8 (b : Int)).toNat : Int) = _
  rw [BitVec.toNat_or, BitVec.ofInt_natCast, BitVec.ofInt_natCast, BitVec.toNat_ofNat, BitVec.toNat_ofNat, Nat.mod_eq_of_lt (by omega), Nat.mod_eq_of_lt (by omega)]
  show ((a ||| b : Nat) : Int) % ((2 ^ 8 : Nat) : Int) = _
  have : (a ||| b) % 2 ^ 8 = a ||| b := Nat.mod_eq_of_lt hx
  omega
end Go.Mine
namespace Go.Proofs.Ytheihohojmcbiaa
open Go.RowKit Go.Mine

/-- A pen at b that wrote l. -/
structure PenAt (w : World) (base b : Nat) (v : Value) (l : List Nat) : Prop where
  blk : Blk w b 71 [v, .int .i64 (l.length : Int), .bool true]
  sl : Sl w base 5 1 v ((l.length + 7) / 8) (byteCells (pack l))
  bin : Bin l
  small : l.length ≤ 16777216

section
variable {w w' : World} {base b : Nat} {v : Value} {l : List Nat} {S : List Nat}
theorem PenAt.only (h : PenAt w base b v l) (ht : OnlyIn S w w') (hb : b ∉ S) (hs : ∀ g, v.ownBlock = some g → g ∉ S) : PenAt w' base b v l := ⟨h.blk.only ht hb, h.sl.only ht hs, h.bin, h.small⟩
theorem PenAt.only0 (h : PenAt w base b v l) (ht : OnlyIn [] w w') : PenAt w' base b v l := h.only ht (by simp) (by simp)
theorem PenAt.drewN (h : PenAt w base b v l) (k : Nat) : PenAt (w.drewN k) base b v l := ⟨h.blk.drewN k, h.sl.drewN k, h.bin, h.small⟩
theorem PenAt.notin (h : PenAt w base b v l) : v.ownBlock ≠ some b := h.sl.ne_blk h.blk (by decide)
end

set_option maxRecDepth 100000 in
theorem pnone_no (w : World) (b : Nat) (h : w.cell? ⟨b, 2, none⟩ = some (.bool true)) : Calls Try.prog 55 #[.pointer (some ⟨b, 0, none⟩)] w fun e w' => e = .returned (.bool false) ∧ w = w' := by
  go_enter Try.func55, Try.ntmps55
  go_wp2
  go_ret
  exact ⟨rfl, rfl⟩
set_option maxRecDepth 100000 in
theorem pnone_nil (w : World) : Calls Try.prog 55 #[.pointer none] w fun e w' => e = .returned (.bool true) ∧ w = w' := by
  go_enter Try.func55, Try.ntmps55
  go_wp2
  go_ret
  exact ⟨rfl, rfl⟩
set_option maxRecDepth 100000 in
theorem pnone_yes (w : World) (b : Nat) (h : w.cell? ⟨b, 2, none⟩ = some (.bool false)) : Calls Try.prog 55 #[.pointer (some ⟨b, 0, none⟩)] w fun e w' => e = .returned (.bool true) ∧ w = w' := by
  go_enter Try.func55, Try.ntmps55
  go_wp2
  go_ret
  exact ⟨rfl, rfl⟩
set_option maxRecDepth 100000 in
theorem pfull_any (w : World) (b m : Nat) (n : Nat) (h : w.cell? ⟨b, 1, none⟩ = some (.int .i64 (m : Int))) (hm : m ≤ 16777216) (hn : n ≤ 16777216) : Calls Try.prog 56 #[.pointer (some ⟨b, 0, none⟩), .int .i64 (n : Int)] w fun e w' => e = .returned (.bool (decide (16777216 < (m : Int) + (n : Int)))) ∧ w = w' := by
  go_enter Try.func56, Try.ntmps56
  go_wp2
  go_ret
  exact ⟨rfl, rfl⟩
set_option maxRecDepth 100000 in
theorem NewPen_any (w : World) : Calls Try.prog 25 #[] w fun e w' => e = .returned (.pointer (some ⟨w.heap.size, 0, none⟩)) ∧ PenAt w' (w.heap.size + 1) w.heap.size (.slice none 0 0) [] ∧ OnlyIn [] w w' := by
  go_enter Try.func25, Try.ntmps25
  go_wp2
  go_ret
  exact ⟨rfl, ⟨Blk.new w _ [.slice none 0 0, .int .i64 0, .bool true], Sl.nil _ _ _ _, Bin.nil, by simp⟩, (OnlyIn.refl _ _).alloc _⟩
set_option maxRecDepth 100000 in
theorem Len_any (w : World) {base b : Nat} {v : Value} {l : List Nat} (h : PenAt w base b v l) : Calls Try.prog 30 #[.pointer (some ⟨b, 0, none⟩)] w fun e w' => e = .returned (.int .i64 (l.length : Int)) ∧ w = w' := by
  have c1 := h.blk.cell (i := 1) rfl
  have c2 := h.blk.cell (i := 2) rfl
  clear h
  go_enter Try.func30, Try.ntmps30
  go_wp2_with (go_at_call 55; refine (pnone_no _ b c2).mono ?_; rintro e w' ⟨rfl, rfl⟩)
  go_ret
  exact ⟨rfl, rfl⟩

set_option maxRecDepth 100000 in
set_option maxHeartbeats 1000000 in
theorem write_any (w : World) {base b : Nat} {v : Value} {l : List Nat} (h : PenAt w base b v l) (x : Nat) (hx : x < 2) (hl : l.length < 16777216) (hbase : base ≤ w.heap.size) :
    Calls Try.prog 57 #[.pointer (some ⟨b, 0, none⟩), .int .i64 (x : Int)] w fun e w' => e = .returned (.tuple #[]) ∧ ∃ v', PenAt w' base b v' (l ++ [x]) ∧ OnlyIn (b :: v.ownBlock.toList) w w' ∧ (∀ g, v'.ownBlock = some g → v.ownBlock = some g ∨ w.heap.size ≤ g) := by
  obtain ⟨i0, hi0, hz0, hz1, hz2⟩ := info_parts Try.infoB
  obtain ⟨A, c, rfl, hc⟩ := h.sl.val
  have hbl := h.blk
  have hsl := h.sl
  have hbn := h.bin
  have hob : OnlyIn (b :: (Value.slice A ((l.length + 7) / 8) c).ownBlock.toList) w w := OnlyIn.refl _ _
  have c0 := hbl.cell (i := 0) rfl
  have c1 := hbl.cell (i := 1) rfl
  have f0 := hbl.free 0
  have f1 := hbl.free 1
  have hb1 := hbl.lt
  have hrl := roomed_length l
  have hrg := roomed_get hbn
  have hps := pack_snoc l x
  have hor := byteN_or hbn x hx
  have hlt1 := byteN_lt hbn (l.length / 8)
  have hpl := pack_length l
  have HG := Lib.hid (And.intro hrl (And.intro hrg (And.intro hps (And.intro hor hpl))))
  clear hrl hrg hps hor hpl
  obtain ⟨q, hq⟩ : ∃ q, l.length / 8 = q := ⟨_, rfl⟩
  obtain ⟨r, hr⟩ : ∃ r, l.length % 8 = r := ⟨_, rfl⟩
  have hqr : l.length = 8 * q + r := by omega
  have hr8 : r < 8 := by omega
  have hdiv : (l.length : Int) / 8 = (q : Int) := by omega
  have hmod : (l.length : Int) % 8 = (r : Int) := by omega
  have HQ := Lib.hid (And.intro hq (And.intro hr hqr))
  have hlq : l.length < 8 * q + 8 := by omega
  have hlq2 : 8 * q ≤ l.length := by omega
  have htm : (l.length : Int).tmod 8 = (r : Int) := by rw [Int.tmod_eq_emod_of_nonneg (by omega)]; exact hmod
  obtain ⟨s, hs⟩ : ∃ s, 7 - r = s := ⟨_, rfl⟩
  have h70 : (7 : Int) - (r : Int) = (s : Int) := by omega
  have hs8 : s ≤ 8 := by omega
  have hs8' : (s : Int) ≤ 8 := by omega
  have hpow : 2 ^ s ≤ 2 ^ 7 := Nat.pow_le_pow_right (by omega) (by omega)
  obtain ⟨y, hy⟩ : ∃ y, x * 2 ^ s = y := ⟨_, rfl⟩
  have hy1 : y < 256 := by
    have h1 : x * 2 ^ s ≤ 1 * 2 ^ 7 := Nat.mul_le_mul (by omega) hpow
    omega
  have hxs : (x : Int) * 2 ^ s = (y : Int) := by rw [← hy]; push_cast; rfl
  have hx8 : IntKind.u8.wrap (x : Int) = (x : Int) := by rw [IntKind.wrap_u8]; omega
  have hy8 : IntKind.u8.wrap (y : Int) = (y : Int) := by rw [IntKind.wrap_u8]; omega
  have hoy : bits .or .u8 ((byteN l q : Nat) : Int) (y : Int) = ((byteN l q ||| y : Nat) : Int) := or_u8 _ _ (by rw [← hq]; exact hlt1) hy1
  have HS := Lib.hid (And.intro hs hy)
  clear hs hy hpow
  have hq1 : (q : Int) < (q : Int) + 1 := by omega
  have hw1 : IntKind.i64.wrap (q : Int) = (q : Int) := by rw [IntKind.wrap_i64]; omega
  have hw2 : IntKind.i64.wrap (s : Int) = (s : Int) := by rw [IntKind.wrap_i64]; omega
  by_cases h8 : r = 0
  · have hd : ((r : Int) == 0) = true := by simp; omega
    have hqq : (l.length + 7) / 8 = q := by omega
    rw [hqq] at c0 hsl
    have hgo : ∀ (g : Nat), (Value.slice A q c).ownBlock = some g → ¬ g = b := fun g hg e => hsl.ne_blk hbl (by decide) (by rw [hg, e])
    have hne := hbl.ne_own hsl (by decide)
    rw [hqq] at hbl hob ⊢
    have H8 := Lib.hid h8
    clear hq hr hqr hqq h8
    go_enter Try.func57, Try.ntmps57
    go_wp2_with (at_builtin; refine wpList_append_sl rfl _ _ 22 rfl base 5 i0 _ 1 1 Try.underlying22 hi0 hz0 hz1 hz2 rfl (by decide) (.slice A q c) q (byteCells (pack l)) rfl (hsl.alloc _) _ 1 (byteCells [0]) rfl (Rd.lit w (byteCells [0]) 5 1 rfl) (byteCells_one _) (by simp only [maxLen]; omega) (by omega) (by simp; omega) ?_; intro v2 w2 hs2 hg2 hat2; rw [← byteCells_append] at hs2; obtain ⟨g, off, cap, rfl, hlo, hhi, hcp⟩ := hs2.form (by omega); have hb2 : Blk w2 b 71 _ := (hbl.alloc _).grown hg2 hne; have d0 := hb2.cell (i := 0) rfl; have d1 := hb2.cell (i := 1) rfl; have d2 := hb2.free 0; have d3 := hb2.free 1)
    have hbl3 := hb2.set 0 (.slice (some ⟨g, off, none⟩) (q + 1) cap)
    have hs3 := hs2.setCell (p := ⟨b, 0, none⟩) (hs2.ne_blk hb2 (by decide)) (.slice (some ⟨g, off, none⟩) (q + 1) cap)
    have ht3 : OnlyIn (b :: (Value.slice A q c).ownBlock.toList) w (w2.setCell ⟨b, 0, none⟩ (.slice (some ⟨g, off, none⟩) (q + 1) cap)) :=
      (((OnlyIn.refl _ _).alloc _).grown hg2 (fun k hk => .inl (by simp [hk]))).setCell (p := ⟨b, 0, none⟩) (.inl (by simp)) _
    obtain ⟨h1, h2, h3, h4, h5⟩ := HG.out
    obtain ⟨e1, e2, e3⟩ := HQ.out
    have hroom : roomed l = pack l ++ [0] := by unfold roomed; rw [e2, if_pos H8.out]
    rw [← hroom] at hs3
    rw [e1] at h1 h2
    have q0 := hs3.cell_at rfl (byteCells_get (by omega : q < (roomed l).length))
    have hby : (((roomed l)[q]'(by omega)).toNat : Int) = ((byteN l q : Nat) : Int) := by
      rw [List.getElem?_eq_getElem (by omega)] at h2
      injection h2 with h2
      rw [h2, UInt8.toNat_ofNat_of_lt' (by rw [← e1]; simpa using hlt1)]
    rw [hby] at q0
    have e0 := hs3.free_at rfl (off + q)
    have hgb : g ≠ b := by
      rintro rfl
      exact hs2.ne_blk hb2 (by decide) rfl
    have hgb' : ¬ b = g := fun e => hgb e.symm
    have hlo3 : base ≤ g := hlo
    have hown : (Value.slice A q c).ownBlock = some g ∨ w.heap.size ≤ g := (hat2 g rfl).imp id (fun h => by simp at h; omega)
    rw [e1] at hlt1
    generalize hw3 : w2.setCell ⟨b, 0, none⟩ (.slice (some ⟨g, off, none⟩) (q + 1) cap) = w3 at hbl3 hs3 ht3 q0 e0 ⊢
    have H3 := Lib.hid (And.intro h1 (And.intro h2 (And.intro h3 h4)))
    have HE := Lib.hid (And.intro e1 (And.intro e2 e3))
    clear hw3 hb2 hs2 hg2 hat2 d0 d1 d2 d3 c0 c1 f0 f1 h1 h2 h3 h4 h5 e1 e2 e3 hroom hby hsl hbl hob
    have c0 := hbl3.cell (i := 0) rfl
    have c1 := hbl3.cell (i := 1) rfl
    have f0 := hbl3.free 0
    have f1 := hbl3.free 1
    (refine Go.Mine.wp_region_tail 22 (by kernel_rfl) (by kernel_rfl) ?_; simp only [List.take_succ_cons, List.take_zero, List.drop_succ_cons, List.drop_zero]; (repeat (refine Go.wpStill_step (fun K hK => ?_); go_simp; first | (refine hK _ ?_; clear hK K) | (apply Exists.intro; refine ⟨?_, hK _ ?_⟩; (fail); clear hK K))); refine Go.wpStill_nil ?_)
    go_wp2_with fail
    go_end0
    obtain ⟨h1, h2, h3, h4⟩ := H3.out
    obtain ⟨e1, e2, e3⟩ := HE.out
    obtain ⟨e4, e5⟩ := HS.out
    rw [e1, e2, e4, e5] at h3 h4
    have hb2 := ((hbl3.far (p := ⟨g, off + q, none⟩) hgb' (.int .u8 ((byteN l q ||| y : Nat) : Int))).set 1 (.int .i64 ((l.length : Int) + 1))).drew
    have hs2 := (hs3.stored rfl q (.int .u8 ((byteN l q ||| y : Nat) : Int))).setCell (p := ⟨b, 1, none⟩) (by simpa [Value.ownBlock] using hgb) (.int .i64 ((l.length : Int) + 1))
    refine ⟨rfl, _, ⟨by simpa using hb2, ?_, hbn.append (Bin.one hx), by simp; omega⟩, ?_, fun g' hg' => ?_⟩
    · rw [h3, byteCells_set, UInt8.toNat_ofNat_of_lt' (by rw [← h4]; have := Nat.or_lt_two_pow (n := 8) (by omega : byteN l q < 2 ^ 8) (by omega : y < 2 ^ 8); simpa using this), ← h4]
      have : ((l ++ [x]).length + 7) / 8 = q + 1 := by have := H8.out; simp; omega
      rw [this]
      exact hs2.drew
    · refine ((OnlyIn.setCell ?_ (p := ⟨g, off + q, none⟩) (by rcases hown with h | h; exact .inl (by simp [h]); exact .inr h) _).setCell (p := ⟨b, 1, none⟩) (.inl (by simp)) _).drew
      exact ht3
    · simp only [Value.ownBlock, Option.map_some, Option.some.injEq] at hg'
      subst hg'
      exact hown
  · have hd : ((r : Int) == 0) = false := by simp; omega
    have hqq : (l.length + 7) / 8 = q + 1 := by omega
    have hsl' : Sl w base 5 1 (.slice A (q + 1) c) (q + 1) (byteCells (roomed l)) := by
      rw [hqq] at hsl
      unfold roomed
      rw [hr, if_neg h8]
      exact hsl
    rw [hqq] at c0 hbl hob ⊢
    clear hsl hqq
    obtain ⟨g, off, cap, hv, hg1, hg2, hg3⟩ := hsl'.form (by omega)
    injection hv with hA _ hcc
    subst hA hcc
    have q0 : w.cell? ⟨g, off + q, none⟩ = some (.int .u8 ((byteN l q : Nat) : Int)) := hsl'.cell_at rfl (by
      have h1 := HG.out.2.1
      rw [hq] at h1
      rw [byteCells_get (by rw [HG.out.1]; omega)]
      rw [List.getElem?_eq_getElem (by rw [HG.out.1]; omega)] at h1
      injection h1 with h1
      rw [h1, UInt8.toNat_ofNat_of_lt' (by rw [← hq]; simpa using hlt1)])
    have e0 : w.frozen? ⟨g, off + q, none⟩ = false := hsl'.free_at rfl _
    have hgb : g ≠ b := by
      rintro rfl
      exact hsl'.ne_blk hbl (by decide) rfl
    have hgb' : ¬ b = g := fun e => hgb e.symm
    rw [hq] at hlt1
    clear hq hr hqr
    go_enter Try.func57, Try.ntmps57
    go_wp2_with fail
    (refine Go.Mine.wp_region_tail 22 (by kernel_rfl) (by kernel_rfl) ?_; simp only [List.take_succ_cons, List.take_zero, List.drop_succ_cons, List.drop_zero]; (repeat (refine Go.wpStill_step (fun K hK => ?_); go_simp; first | (refine hK _ ?_; clear hK K) | (apply Exists.intro; refine ⟨?_, hK _ ?_⟩; (fail); clear hK K))); refine Go.wpStill_nil ?_)
    go_wp2_with fail
    go_end0
    obtain ⟨h1, h2, h3, h4, h5⟩ := HG.out
    obtain ⟨e1, e2, e3⟩ := HQ.out
    obtain ⟨e4, e5⟩ := HS.out
    rw [e1, e2, e4, e5] at h3 h4
    have hb2 := ((hbl.far (p := ⟨g, off + q, none⟩) hgb' (.int .u8 ((byteN l q ||| y : Nat) : Int))).set 1 (.int .i64 ((l.length : Int) + 1))).drew
    have hs2 := (hsl'.stored rfl q (.int .u8 ((byteN l q ||| y : Nat) : Int))).setCell (p := ⟨b, 1, none⟩) (by simpa [Value.ownBlock] using hgb) (.int .i64 ((l.length : Int) + 1))
    refine ⟨rfl, _, ⟨by simpa using hb2, ?_, hbn.append (Bin.one hx), by simp; omega⟩, ?_, fun g' hg' => .inl hg'⟩
    · rw [h3, byteCells_set, UInt8.toNat_ofNat_of_lt' (by rw [← h4]; have := Nat.or_lt_two_pow (n := 8) (by omega : byteN l q < 2 ^ 8) (by omega : y < 2 ^ 8); simpa using this), ← h4]
      have : ((l ++ [x]).length + 7) / 8 = q + 1 := by simp; omega
      rw [this]
      exact hs2.drew
    · exact (((OnlyIn.refl _ _).setCell (p := ⟨g, off + q, none⟩) (.inl (by simp [Value.ownBlock])) _).setCell (p := ⟨b, 1, none⟩) (.inl (by simp)) _).drew

set_option maxRecDepth 100000 in
theorem Clone_any (w : World) {base : Nat} (v : Value) (bs : List UInt8) (hs : Rd w 1 v bs.length (byteCells bs)) (hl : bs.length ≤ 1000000000) :
    Calls Try.prog 58 #[v] w fun e w' => ∃ u, e = .returned u ∧ Sl w' w.heap.size 5 1 u bs.length (byteCells bs) ∧ OnlyIn [] w w' := by
  obtain ⟨i0, hi0, hz0, hz1, hz2⟩ := info_parts Try.infoB
  have hs' := hs
  obtain ⟨-, A, c, rfl, hc, hA⟩ := hs'
  clear hA
  by_cases hn : A = none
  · subst hn
    have hb0 : bs = [] := by
      obtain ⟨_, A', c', h2, h3, h4⟩ := hs
      rcases Nat.eq_zero_or_pos bs.length with h | h
      · exact List.eq_nil_of_length_eq_zero h
      · obtain ⟨g, off, e, _⟩ := h4 h
        injection h2 with h2
        rw [← h2] at e
        cases e
    subst hb0
    have hnil := fun w => Lib.run_eql_slice_nil (P := Try.prog) w 22 5 none 0 c 0 0 Try.underlying22
    go_enter Try.func58, Try.ntmps58
    go_wp2_with fail
    go_ret
    exact ⟨_, rfl, Sl.nil _ _ _ _, OnlyIn.refl _ _⟩
  · obtain ⟨a0, rfl⟩ : ∃ a0, A = some a0 := by cases A; exact absurd rfl hn; exact ⟨_, rfl⟩
    have hnil := fun w => Lib.run_eql_slice_nil (P := Try.prog) w 22 5 (some a0) bs.length c 0 0 Try.underlying22
    go_enter Try.func58, Try.ntmps58
    go_wp2_with (at_builtin; refine wpList_append_sl rfl _ _ 22 rfl w.heap.size 5 i0 _ 1 1 Try.underlying22 hi0 hz0 hz1 hz2 rfl (by decide) _ 0 [] rfl (Sl.lit w [] 5 0 rfl (by decide) (Nat.le_refl _)) _ bs.length (byteCells bs) rfl (hs.cells fun p u hp => ((OnlyIn.refl [] w).alloc _).cell hp (by simp)) (byteCells_one bs) (by simp only [maxLen]; omega) (by omega) (by simp) ?_; intro v1 w1 hs1 hg1 hat1; rw [Nat.zero_add, List.nil_append] at hs1)
    go_ret
    exact ⟨_, rfl, hs1, ((OnlyIn.refl [] w).alloc _).grown hg1 (fun k hk => .inr (by cases hk; exact Nat.le_refl _))⟩
end Go.Proofs.Ytheihohojmcbiaa
