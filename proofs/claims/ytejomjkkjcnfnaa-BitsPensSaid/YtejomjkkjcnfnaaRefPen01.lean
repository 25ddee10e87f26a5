/-
  The reference's pen: bits in a list.
-/
import Derived.Test.YtejomjkkjcnfnaaPenCode
import Derived.Test.YtejomjkkjcnfnaaInv
import Derived.Deep.RegionLaw
namespace Go.Mine
def natCells (l : List Nat) : List Value := l.map fun (x : Nat) => Value.int .i64 (x : Int)
theorem natCells_append (a b : List Nat) : natCells (a ++ b) = natCells a ++ natCells b := by simp [natCells]
theorem natCells_get {l : List Nat} {i : Nat} (h : i < l.length) : (natCells l)[i]? = some (.int .i64 ((l[i]'h : Nat) : Int)) := by simp [natCells, List.getElem?_eq_getElem h]
end Go.Mine
namespace Go.Proofs.Ytejomjkkjcnfnaa
open Go.RowKit Go.Mine

/-- The reference's pen at b wrote l. -/
structure RPen (w : World) (base b : Nat) (v : Value) (l : List Nat) : Prop where
  blk : Blk w b 42 [v]
  sl : Sl w base 3 1 v l.length (natCells l)
  bin : Bin l
  small : l.length ≤ 16777216
set_option maxRecDepth 100000 in
theorem RPen.only {w w' : World} {base b : Nat} {v : Value} {l : List Nat} {S : List Nat} (h : RPen w base b v l) (ht : OnlyIn S w w') (hb : b ∉ S) (hs : ∀ g, v.ownBlock = some g → g ∉ S) : RPen w' base b v l := ⟨h.blk.only ht hb, h.sl.only ht hs, h.bin, h.small⟩
set_option maxRecDepth 100000 in
theorem Try.infoIntR : (Try.prog.info? 3).map (fun i => (i.zero, i.size, i.bytes)) = some (some (.int .i64 0), 1, 8) := by kernel_rfl

set_option maxRecDepth 100000 in
theorem RCode_form (w : World) (p v : Value) (bs : List UInt8) (hb : ¬ Is01 bs) (hl : bs.length ≤ 1000000000) :
    Calls Try.prog 22 #[p, .string (str bs)] w fun e w' => e = .returned (.int .i64 14) ∧ w = w' := by
  have hsz := str_size bs
  have hl2 : (str bs).size ≤ 1000000000 := by rw [hsz]; exact hl
  obtain ⟨n, hn⟩ : ∃ n, (str bs).size = n := ⟨_, rfl⟩
  have HB := Lib.hid (And.intro hb (hsz.symm.trans hn))
  clear hb hsz hl
  go_enter Try.func22, Try.ntmps22
  go_wp2_with fail
  go_loop [5] (fun i => ∃ k : Nat, k ≤ n ∧ i = .int .i64 (k : Int) ∧ Hid (∀ j c, j < k → bs[j]? = some c → c = 48 ∨ c = 49)) (fun i => n - (intOf i).toNat)
  case atStart => exact ⟨0, by omega, rfl, Lib.hid (fun j c hj => absurd hj (by omega))⟩
  case round =>
    obtain ⟨k, hk, rfl, HZ⟩ := hrel
    by_cases hlt : k < n
    · have hks : k < (str bs).size := by omega
      have hkb : k < bs.length := by rw [HB.out.2]; omega
      have hget := str_get hks hkb
      by_cases hc : bs[k]'hkb = 48 ∨ bs[k]'hkb = 49
      · have HZ2 : Hid (∀ j c, j < k + 1 → bs[j]? = some c → c = 48 ∨ c = 49) := Lib.hid (fun j c hj hjc => by
          by_cases hjk : j = k
          · subst hjk; rw [List.getElem?_eq_getElem hkb] at hjc; injection hjc with hjc; rw [← hjc]; exact hc
          · exact HZ.out j c (by omega) hjc)
        rcases hc with hc | hc
        · have hv : (((str bs)[k]'hks).toNat : Int) = 48 := by rw [hget, hc]; rfl
          clear hget hc
          go_wp2_with fail
          go_round
          case rel => exact ⟨k + 1, by omega, by go_num, HZ2⟩
          case measure => simp [intOf]; omega
        · have hv : (((str bs)[k]'hks).toNat : Int) = 49 := by rw [hget, hc]; rfl
          clear hget hc
          go_wp2_with fail
          go_round
          case rel => exact ⟨k + 1, by omega, by go_num, HZ2⟩
          case measure => simp [intOf]; omega
      · have hv1 : ((((str bs)[k]'hks).toNat : Int) == 48) = false := by rw [hget]; simp; exact fun e => hc (.inl (UInt8.toNat_inj.1 (by simpa using (by omega : (bs[k]'hkb).toNat = 48))))
        have hv2 : ((((str bs)[k]'hks).toNat : Int) == 49) = false := by rw [hget]; simp; exact fun e => hc (.inr (UInt8.toNat_inj.1 (by simpa using (by omega : (bs[k]'hkb).toNat = 49))))
        have hv3 : ((((str bs)[k]'hks).toNat : Int) != 48) = true := by rw [bne, hv1]; rfl
        have hv4 : ((((str bs)[k]'hks).toNat : Int) != 49) = true := by rw [bne, hv2]; rfl
        clear hget hc
        go_wp2_with fail
        go_ret
        exact ⟨rfl, rfl⟩
    · exfalso
      obtain ⟨h1, h2⟩ := HB.out
      exact h1 (fun c hc => by
        obtain ⟨j, hj⟩ := List.getElem?_of_mem hc
        have := (List.getElem?_eq_some_iff.1 hj).1
        exact HZ.out j c (by omega) hj)

def rAt (w0 : World) (base b : Nat) (v0 : Value) (l : List Nat) (x : List Nat) (j : Nat) (wr : World) : Prop :=
  ∃ v : Value, RPen wr base b v (l ++ x.take j) ∧ OnlyIn (b :: v0.ownBlock.toList) w0 wr ∧ (∀ g, v.ownBlock = some g → v0.ownBlock = some g ∨ w0.heap.size ≤ g)

/-- One bit is appended: what it comes to. -/
theorem r_step {w0 wr W1 w2 : World} {base b : Nat} {v0 v v2 : Value} {l x : List Nat} {j : Nat} (hW : OnlyIn [] wr W1) (hj : j < x.length) (hx : Bin x) (hP : RPen wr base b v (l ++ x.take j)) (hto : OnlyIn (b :: v0.ownBlock.toList) w0 wr)
    (hown : ∀ g, v.ownBlock = some g → v0.ownBlock = some g ∨ w0.heap.size ≤ g) (hsm : l.length + x.length ≤ 16777216)
    (hs : Sl w2 base 3 1 v2 ((l ++ x.take j).length + 1) (natCells (l ++ x.take j) ++ [.int .i64 ((x[j]'hj : Nat) : Int)])) (hg : W1.grownBy w2 v.ownBlock) (hat : ∀ g, v2.ownBlock = some g → v.ownBlock = some g ∨ W1.heap.size ≤ g) :
    rAt w0 base b v0 l x (j + 1) (w2.setCell ⟨b, 0, none⟩ v2) := by
  have htk : l ++ x.take (j + 1) = (l ++ x.take j) ++ [x[j]'hj] := by rw [List.take_succ_eq_append_getElem hj, List.append_assoc]
  have hne := hP.sl.ne_blk hP.blk (by decide)
  have hb1 : Blk W1 b 42 [v] := hP.blk.only hW (by simp)
  have hb2 : Blk w2 b 42 [v] := hb1.grown hg (fun e => hne e.symm)
  refine ⟨v2, ⟨hb2.set 0 v2, ?_, ?_, ?_⟩, ?_, ?_⟩
  · rw [htk, natCells_append, show (l ++ x.take j ++ [x[j]'hj]).length = (l ++ x.take j).length + 1 from by simp; omega]
    exact hs.setCell (p := ⟨b, 0, none⟩) (hs.ne_blk hb2 (by decide)) v2
  · rw [htk]; exact hP.bin.append (Bin.one (hx _ (List.getElem_mem hj)))
  · rw [htk]; simp; omega
  · have h1 : OnlyIn (b :: v0.ownBlock.toList) w0 W1 := hto.then hW (by simp)
    refine (h1.grown hg (fun g hg => ?_)).setCell (.inl (by simp)) _
    rcases hown g hg with h | h
    · exact .inl (by simp [h])
    · exact .inr h
  · intro g hg
    rcases hat g hg with h | h
    · exact hown g h
    · have := hto.size; have := hW.size; exact .inr (by omega)

set_option maxRecDepth 100000 in
set_option maxHeartbeats 1000000 in
theorem RCode_ok (w : World) {base b : Nat} {v : Value} {l : List Nat} (h : RPen w base b v l) (bs : List UInt8) (hb : Is01 bs) (hl : l.length + bs.length ≤ 16777216) (hbase : base ≤ w.heap.size) :
    Calls Try.prog 22 #[.pointer (some ⟨b, 0, none⟩), .string (str bs)] w fun e w' => e = .returned (.int .i64 0) ∧ rAt w base b v l (digs bs) (digs bs).length w' := by
  obtain ⟨i0, hi0, hz0, hz1, hz2⟩ := info_parts Try.infoIntR
  have hsz := str_size bs
  obtain ⟨n, hn⟩ : ∃ n, (str bs).size = n := ⟨_, rfl⟩
  have hl2 : n ≤ 16777216 := by rw [← hn, hsz]; omega
  have hd : decide ((16777216 : Int) < (l.length : Int) + (n : Int)) = false := decide_eq_false (by omega)
  obtain ⟨A, c, rfl, hc⟩ := h.sl.val
  have c0 := h.blk.cell (i := 0) rfl
  have hsm := h.small
  have HB := Lib.hid (And.intro hb (hsz.symm.trans hn))
  have HL := Lib.hid (And.intro hl hbase)
  have H := Lib.hid h
  clear hb hsz hl h hbase
  go_enter Try.func22, Try.ntmps22
  go_wp2_with fail
  go_loop [5] (fun i => ∃ k : Nat, k ≤ n ∧ i = .int .i64 (k : Int)) (fun i => n - (intOf i).toNat)
  case atStart => exact ⟨0, by omega, rfl⟩
  case round =>
    obtain ⟨k, hk, rfl⟩ := hrel
    by_cases hlt : k < n
    · have hks : k < (str bs).size := by omega
      have hkb : k < bs.length := by rw [HB.out.2]; omega
      have hget := str_get hks hkb
      rcases HB.out.1 _ (List.getElem_mem hkb) with hc | hc
      · have hv : (((str bs)[k]'hks).toNat : Int) = 48 := by rw [hget, hc]; rfl
        clear hget hc
        go_wp2_with fail
        go_round
        case rel => exact ⟨k + 1, by omega, by go_num⟩
        case measure => simp [intOf]; omega
      · have hv : (((str bs)[k]'hks).toNat : Int) = 49 := by rw [hget, hc]; rfl
        clear hget hc
        go_wp2_with fail
        go_round
        case rel => exact ⟨k + 1, by omega, by go_num⟩
        case measure => simp [intOf]; omega
    · obtain rfl : k = n := by omega
      go_wp2_with fail
      go_loopw [6] (fun i wr => ∃ j : Nat, j ≤ k ∧ i = .int .i64 (j : Int) ∧ rAt w base b (.slice A l.length c) l (digs bs) j wr) (fun i _ => k - (intOf i).toNat)
      case atStart => exact ⟨0, by omega, rfl, _, by simpa using H.out, OnlyIn.refl _ _, fun g hg => .inl hg⟩
      case round =>
        obtain ⟨j, hj, rfl, v1, hP, hto, hown⟩ := hrel
        by_cases hlt2 : j < k
        · have hjs : j < (str bs).size := by omega
          have hjb : j < bs.length := by rw [HB.out.2]; omega
          have hget := str_get hjs hjb
          obtain ⟨x, hx, hxc⟩ : ∃ x : Nat, x < 2 ∧ (bs[j]'hjb).toNat = 48 + x := by
            rcases HB.out.1 _ (List.getElem_mem hjb) with hc | hc
            · exact ⟨0, by omega, by rw [hc]; rfl⟩
            · exact ⟨1, by omega, by rw [hc]; rfl⟩
          have hv : (((str bs)[j]'hjs).toNat : Int) = 48 + (x : Int) := by rw [hget, hxc]; omega
          have hdj : j < (digs bs).length := by rw [digs_length]; exact hjb
          have hdx : (digs bs)[j]'hdj = x := by simp [digs, hxc]
          have hw8 : IntKind.u8.wrap ((48 : Int) + (x : Int) - 48) = (x : Int) := by rw [IntKind.wrap_u8]; omega
          have hw8b : (48 : Int) + (x : Int) - 48 = (x : Int) := by omega
          have hw8c : IntKind.u8.wrap (x : Int) = (x : Int) := by rw [IntKind.wrap_u8]; omega
          have hw64 : IntKind.i64.wrap (x : Int) = (x : Int) := by rw [IntKind.wrap_i64]; omega
          obtain ⟨M, hM⟩ : ∃ M, (l ++ (digs bs).take j).length = M := ⟨_, rfl⟩
          have hsl := hP.sl
          rw [hM] at hsl
          obtain ⟨A1, c1, rfl, hc1⟩ := hsl.val
          have d0 := hP.blk.cell (i := 0) rfl
          have e0 := hP.blk.free 0
          have hblt := hP.blk.lt
          have hlen : M ≤ 16777216 := by rw [← hM]; exact hP.small
          have hbs : base ≤ wr.heap.size := Nat.le_trans HL.out.2 hto.size
          have HH := Lib.hid (And.intro hP (And.intro hto (And.intro hown (And.intro hdx hM))))
          have hne := hP.blk.ne_own hP.sl (by decide)
          have hblk := hP.blk
          clear hP hto hown hdx hget hxc hM
          go_wp2_with fail
          go_region_law (refine step_append_sl rfl _ _ 40 rfl base 3 i0 _ 1 8 Try.underlying40 hi0 hz0 hz1 hz2 rfl (by decide) (.slice A1 M c1) _ _ rfl ((hsl.alloc (.cells #[.int .i64 (x : Int)] 3)).drew) (.slice (some ⟨wr.heap.size, 0, none⟩) 1 1) 1 [.int .i64 (x : Int)] rfl ((Rd.lit wr [.int .i64 (x : Int)] 3 1 rfl).drew) (by simp [Value.oneCell']) (by simp only [maxLen]; omega) (by omega) (by simp; omega) ?_; intro v2 w2 hs2 hg2 hat2; obtain ⟨A2, c2, rfl, hc2⟩ := hs2.val; have hb2 : Blk w2 b 42 _ := ((hblk.alloc _).drew).grown hg2 hne; have k0 := hb2.cell (i := 0) rfl; have k1 := hb2.free 0)
          all_goals
            obtain ⟨hP, hto, hown, hdx, hM⟩ := HH.out
            have hR := r_step (((OnlyIn.refl [] wr).alloc (.cells #[.int .i64 (x : Int)] 3)).drew) hdj (digs_bin HB.out.1) hP hto hown (by have := HL.out.1; rw [digs_length]; exact this) (by rw [hM, hdx]; exact hs2) hg2 hat2
            have HR := Lib.hid hR
            clear hP hto hown hdx hM hR hs2 hg2 hat2 HH hsl hblk hne hb2
            go_wp2_with fail
            go_roundw
            case rel => exact ⟨j + 1, by omega, by go_num, HR.out⟩
            case measure => simp [intOf]; omega
        · obtain rfl : j = k := by omega
          have HR := Lib.hid (show rAt w base b (.slice A l.length c) l (digs bs) (digs bs).length wr from by
            rw [digs_length, HB.out.2]; exact ⟨v1, hP, hto, hown⟩)
          clear hP hto hown
          go_wp2_with fail
          go_ret
          exact ⟨rfl, HR.out⟩
end Go.Proofs.Ytejomjkkjcnfnaa
