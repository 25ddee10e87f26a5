/-
  Package bits: Code.
-/
import Derived.Test.YtheihohojmcbiaaPenPut
import Derived.Lib.OthersKept
namespace Go.Mine
open Go.RowKit
/-- A text of 0 and 1. -/
def Is01 (bs : List UInt8) : Prop := ∀ c ∈ bs, c = 48 ∨ c = 49
instance (bs : List UInt8) : Decidable (Is01 bs) := by unfold Is01; infer_instance
def digs (bs : List UInt8) : List Nat := bs.map fun c => c.toNat - 48
theorem digs_bin {bs : List UInt8} (h : Is01 bs) : Bin (digs bs) := by
  intro x hx
  obtain ⟨c, hc, rfl⟩ := List.mem_map.1 hx
  rcases h c hc with rfl | rfl <;> decide
theorem digs_length (bs : List UInt8) : (digs bs).length = bs.length := by simp [digs]
theorem digs_append (a b : List UInt8) : digs (a ++ b) = digs a ++ digs b := by simp [digs]
theorem OnlyIn.iterAt {S : List Nat} {w W : World} (h : OnlyIn S w W) {k : Nat} (hk : k ∈ S ∨ w.heap.size ≤ k) (s : ByteArray) (pos : Nat) : OnlyIn S w (W.iterAt k s pos) := by
  refine ⟨h.os, h.tape, h.output, by simpa [World.iterAt] using h.size, fun i hi hn => ?_⟩
  have hik : k ≠ i := by
    rintro rfl
    rcases hk with hk | hk
    · exact hn hk
    · omega
  show (W.heap.setIfInBounds k _)[i]? = _
  rw [Array.getElem?_setIfInBounds_ne hik]
  exact h.block i hi hn
theorem Sl.ne_iter {w : World} {base e size n : Nat} {v : Value} {xs : List Value} (h : Sl w base e size v n xs) {l : Nat} {s : ByteArray} {p : Nat} (hl : w.heap[l]? = some (.stringIter s p)) : v.ownBlock ≠ some l := by
  intro hk
  obtain ⟨cur, hc⟩ := h.type_ l hk
  rw [hl] at hc
  cases hc
end Go.Mine
namespace Go.Proofs.Ytheihohojmcbiaa
open Go.RowKit Go.Mine

set_option maxRecDepth 100000 in
theorem str_get {bs : List UInt8} {k : Nat} (hks : k < (str bs).size) (hkb : k < bs.length) : (str bs)[k]'hks = bs[k]'hkb := by show (str bs).data[k]'_ = _; simp [str]

set_option maxRecDepth 100000 in
/-- The texts' fault. -/
theorem Code_form (w : World) {base b : Nat} {v : Value} {l : List Nat} (h : PenAt w base b v l) (bs : List UInt8) (hb : ¬ Is01 bs) (hl : bs.length ≤ 1000000000) :
    Calls Try.prog 28 #[.pointer (some ⟨b, 0, none⟩), .string (str bs)] w fun e w' => e = .returned (.int .i64 14) ∧ w = w' := by
  have c2 := h.blk.cell (i := 2) rfl
  clear h
  have hsz := str_size bs
  have hl2 : (str bs).size ≤ 1000000000 := by rw [hsz]; exact hl
  obtain ⟨n, hn⟩ : ∃ n, (str bs).size = n := ⟨_, rfl⟩
  have HB := Lib.hid (And.intro hb (hsz.symm.trans hn))
  clear hb hsz hl
  go_enter Try.func28, Try.ntmps28
  go_wp2_with (go_at_call 55; refine (pnone_no _ b c2).mono ?_; rintro e w' ⟨rfl, rfl⟩)
  go_loop [13] (fun i => ∃ k : Nat, k ≤ n ∧ i = .int .i64 (k : Int) ∧ Hid (∀ j c, j < k → bs[j]? = some c → c = 48 ∨ c = 49)) (fun i => n - (intOf i).toNat)
  case atStart => exact ⟨0, by omega, rfl, Lib.hid (fun j c hj => absurd hj (by omega))⟩
  case round =>
    obtain ⟨k, hk, rfl, HZ⟩ := hrel
    by_cases hlt : k < n
    · have hks : k < (str bs).size := by omega
      have hkb : k < bs.length := by rw [HB.out.2]; omega
      have hget := str_get hks hkb
      by_cases hc : bs[k]'hkb = 48 ∨ bs[k]'hkb = 49
      · have HZ2 : Hid (∀ j c, j < k + 1 → bs[j]? = some c → c = 48 ∨ c = 49) := Lib.hid (fun j c hj hjc => by
          by_cases hjk : j = k
          · subst hjk; rw [List.getElem?_eq_getElem hkb] at hjc; injection hjc with hjc; rw [← hjc]; exact hc
          · exact HZ.out j c (by omega) hjc)
        rcases hc with hc | hc
        · have hv : (((str bs)[k]'hks).toNat : Int) = 48 := by rw [hget, hc]; rfl
          clear hget hc
          go_wp2_with fail
          go_round
          case rel => exact ⟨k + 1, by omega, by go_num, HZ2⟩
          case measure => simp [intOf]; omega
        · have hv : (((str bs)[k]'hks).toNat : Int) = 49 := by rw [hget, hc]; rfl
          clear hget hc
          go_wp2_with fail
          go_round
          case rel => exact ⟨k + 1, by omega, by go_num, HZ2⟩
          case measure => simp [intOf]; omega
      · have hv1 : ((((str bs)[k]'hks).toNat : Int) == 48) = false := by rw [hget]; simp; exact fun e => hc (.inl (UInt8.toNat_inj.1 (by simpa using (by omega : (bs[k]'hkb).toNat = 48))))
        have hv2 : ((((str bs)[k]'hks).toNat : Int) == 49) = false := by rw [hget]; simp; exact fun e => hc (.inr (UInt8.toNat_inj.1 (by simpa using (by omega : (bs[k]'hkb).toNat = 49))))
        have hv3 : ((((str bs)[k]'hks).toNat : Int) != 48) = true := by rw [bne, hv1]; rfl
        have hv4 : ((((str bs)[k]'hks).toNat : Int) != 49) = true := by rw [bne, hv2]; rfl
        clear hget hc
        go_wp2_with fail
        go_ret
        exact ⟨rfl, rfl⟩
    · exfalso
      obtain ⟨h1, h2⟩ := HB.out
      exact h1 (fun c hc => by
        obtain ⟨j, hj⟩ := List.getElem?_of_mem hc
        have := (List.getElem?_eq_some_iff.1 hj).1
        exact HZ.out j c (by omega) hj)

set_option maxRecDepth 100000 in
theorem Code_long (w : World) {base b : Nat} {v : Value} {l : List Nat} (h : PenAt w base b v l) (bs : List UInt8) (hb : Is01 bs) (hl : bs.length ≤ 16777216) (hlong : 16777216 < l.length + bs.length) :
    Calls Try.prog 28 #[.pointer (some ⟨b, 0, none⟩), .string (str bs)] w fun e w' => e = .returned (.int .i64 4) ∧ w = w' := by
  have c2 := h.blk.cell (i := 2) rfl
  have c1 := h.blk.cell (i := 1) rfl
  have hsm := h.small
  clear h
  have hsz := str_size bs
  obtain ⟨n, hn⟩ : ∃ n, (str bs).size = n := ⟨_, rfl⟩
  have hl2 : n ≤ 16777216 := by rw [← hn, hsz]; exact hl
  have hd : decide ((16777216 : Int) < (l.length : Int) + (n : Int)) = true := decide_eq_true (by omega)
  have HB := Lib.hid (And.intro hb (hsz.symm.trans hn))
  clear hb hsz hl hlong
  go_enter Try.func28, Try.ntmps28
  go_wp2_with (go_at_call 55; refine (pnone_no _ b c2).mono ?_; rintro e w' ⟨rfl, rfl⟩)
  go_loop [13] (fun i => ∃ k : Nat, k ≤ n ∧ i = .int .i64 (k : Int)) (fun i => n - (intOf i).toNat)
  case atStart => exact ⟨0, by omega, rfl⟩
  case round =>
    obtain ⟨k, hk, rfl⟩ := hrel
    by_cases hlt : k < n
    · have hks : k < (str bs).size := by omega
      have hkb : k < bs.length := by rw [HB.out.2]; omega
      have hget := str_get hks hkb
      rcases HB.out.1 _ (List.getElem_mem hkb) with hc | hc
      · have hv : (((str bs)[k]'hks).toNat : Int) = 48 := by rw [hget, hc]; rfl
        clear hget hc
        go_wp2_with fail
        go_round
        case rel => exact ⟨k + 1, by omega, by go_num⟩
        case measure => simp [intOf]; omega
      · have hv : (((str bs)[k]'hks).toNat : Int) = 49 := by rw [hget, hc]; rfl
        clear hget hc
        go_wp2_with fail
        go_round
        case rel => exact ⟨k + 1, by omega, by go_num⟩
        case measure => simp [intOf]; omega
    · obtain rfl : k = n := by omega
      go_wp2_with (go_at_call 56; refine (pfull_any _ b l.length k c1 hsm (by omega)).mono ?_; rintro e w' ⟨rfl, rfl⟩)
      go_ret
      exact ⟨rfl, rfl⟩

def codeAt (w0 : World) (base b K : Nat) (v0 : Value) (l : List Nat) (bs : List UInt8) (wr : World) : Prop :=
  ∃ (j : Nat) (v : Value), j ≤ bs.length ∧ wr.heap[K]? = some (.stringIter (str bs) j) ∧ PenAt wr base b v (l ++ (digs bs).take j) ∧ OnlyIn (b :: v0.ownBlock.toList) w0 wr ∧ (∀ g, v.ownBlock = some g → v0.ownBlock = some g ∨ w0.heap.size ≤ g)

set_option maxRecDepth 100000 in
set_option maxHeartbeats 1000000 in
theorem Code_ok (w : World) {base b : Nat} {v : Value} {l : List Nat} (h : PenAt w base b v l) (bs : List UInt8) (hb : Is01 bs) (hl : l.length + bs.length ≤ 16777216) (hbase : base ≤ w.heap.size) :
    Calls Try.prog 28 #[.pointer (some ⟨b, 0, none⟩), .string (str bs)] w fun e w' => e = .returned (.int .i64 0) ∧ ∃ v', PenAt w' base b v' (l ++ digs bs) ∧ OnlyIn (b :: v.ownBlock.toList) w w' ∧ (∀ g, v'.ownBlock = some g → v.ownBlock = some g ∨ w.heap.size ≤ g) := by
  have c2 := h.blk.cell (i := 2) rfl
  have c1 := h.blk.cell (i := 1) rfl
  have hsm := h.small
  have hsz := str_size bs
  obtain ⟨n, hn⟩ : ∃ n, (str bs).size = n := ⟨_, rfl⟩
  have hl2 : n ≤ 16777216 := by rw [← hn, hsz]; omega
  have hd : decide ((16777216 : Int) < (l.length : Int) + (n : Int)) = false := decide_eq_false (by omega)
  have HB := Lib.hid (And.intro hb (hsz.symm.trans hn))
  have HL := Lib.hid hl
  have HBASE := Lib.hid hbase
  clear hb hsz hl hbase
  go_enter Try.func28, Try.ntmps28
  go_wp2_with (go_at_call 55; refine (pnone_no _ b c2).mono ?_; rintro e w' ⟨rfl, rfl⟩)
  go_loop [13] (fun i => ∃ k : Nat, k ≤ n ∧ i = .int .i64 (k : Int)) (fun i => n - (intOf i).toNat)
  case atStart => exact ⟨0, by omega, rfl⟩
  case round =>
    obtain ⟨k, hk, rfl⟩ := hrel
    by_cases hlt : k < n
    · have hks : k < (str bs).size := by omega
      have hkb : k < bs.length := by rw [HB.out.2]; omega
      have hget := str_get hks hkb
      rcases HB.out.1 _ (List.getElem_mem hkb) with hc | hc
      · have hv : (((str bs)[k]'hks).toNat : Int) = 48 := by rw [hget, hc]; rfl
        clear hget hc
        go_wp2_with fail
        go_round
        case rel => exact ⟨k + 1, by omega, by go_num⟩
        case measure => simp [intOf]; omega
      · have hv : (((str bs)[k]'hks).toNat : Int) = 49 := by rw [hget, hc]; rfl
        clear hget hc
        go_wp2_with fail
        go_round
        case rel => exact ⟨k + 1, by omega, by go_num⟩
        case measure => simp [intOf]; omega
    · obtain rfl : k = n := by omega
      have hmf : ∀ (fn : Fn) (first cap : Array Value) (w : World), (Instr.makeFunc fn first cap).run Try.prog w = .ok (.func fn first cap) w := fun _ _ _ _ => rfl
      go_wp2_with (go_at_call 56; refine (pfull_any _ b l.length k c1 hsm (by omega)).mono ?_; rintro e w' ⟨rfl, rfl⟩)
      have hit : OnlyIn [] w (w.iter (str bs) 0) := (OnlyIn.refl [] w).alloc (.stringIter (str bs) 0)
      have hik : (w.iter (str bs) 0).heap[w.heap.size]? = some (.stringIter (str bs) 0) := World.alloc_heap_new w (.stringIter (str bs) 0)
      have hKb : ¬ w.heap.size = b := by have := h.blk.lt; omega
      have hP0 := h.only0 hit
      go_loopw [8] (fun _ wr => codeAt w base b w.heap.size v l bs wr) (fun _ wr => bs.length - wr.iterPos w.heap.size)
      case atStart => exact ⟨0, v, by omega, hik, by simpa using hP0, hit.mono (by simp), fun g hg => .inl hg⟩
      case round =>
        obtain ⟨j, v1, hj, hK, hP, hto, hown⟩ := hrel
        have hvK := hP.sl.ne_iter hK
        by_cases hlt : j < bs.length
        · have hjs : j < (str bs).size := by rw [str_size]; exact hlt
          have hget := str_get hjs hlt
          have hx01 := HB.out.1 _ (List.getElem_mem hlt)
          obtain ⟨x, hx, hxc⟩ : ∃ x : Nat, x < 2 ∧ (bs[j]'hlt).toNat = 48 + x := by
            rcases hx01 with hc | hc
            · exact ⟨0, by omega, by rw [hc]; rfl⟩
            · exact ⟨1, by omega, by rw [hc]; rfl⟩
          have hnx := fun ty => Lib.run_next_ascii_at (P := Try.prog) wr w.heap.size (str bs) j ty hK hjs (by rw [hget]; omega)
          have hv : (((str bs)[j]'hjs).toNat : Int) = 48 + (x : Int) := by rw [hget, hxc]; omega
          have ht1 : OnlyIn [w.heap.size] wr (wr.iterAt w.heap.size (str bs) (j + 1)) := (OnlyIn.refl _ _).iterAt (.inl (by simp)) _ _
          have hP1 := hP.only ht1 (by simp; omega) (fun g hg => by simp; rintro rfl; exact hvK hg)
          have hK1 := Lib.iterAt_heap wr w.heap.size (str bs) j (j + 1) hK
          have hdt : (digs bs).take (j + 1) = (digs bs).take j ++ [x] := by
            rw [List.take_add_one]
            simp [digs, List.getElem?_eq_getElem hlt, hxc]
          have hmeas : wr.iterPos w.heap.size = j := by simp [World.iterPos, hK]
          have HH := Lib.hid (And.intro hP1 (And.intro hK1 (And.intro hdt (And.intro hto (And.intro hown (And.intro ht1 (And.intro hvK hmeas)))))))
          clear hget hx01 hxc hP1 hK1 hdt hto hown ht1 hvK hP hK hmeas hP0 hit hik
          go_wp2_with fail
          obtain ⟨hP1, hK1, hdt, hto, hown, ht1, hvK, hmeas⟩ := HH.out
          rw [show (48 : Int) + (x : Int) - 48 = (x : Int) from by omega]
          refine (write_any _ hP1 x hx (by have := HL.out; simp [digs_length]; omega) (Nat.le_trans HBASE.out (Nat.le_trans hto.size ht1.size))).mono ?_
          rintro e w2 ⟨rfl, v2, hP2, ht2, hown2⟩
          have hK2 : w2.heap[w.heap.size]? = some (.stringIter (str bs) (j + 1)) := (ht2.block _ (Array.getElem?_eq_some_iff.1 hK1).1 (by
            simp only [List.mem_cons, Option.mem_toList]
            rintro (h1 | h1)
            · exact hKb h1
            · exact hvK h1)).trans hK1
          have hP3 : PenAt w2 base b v2 (l ++ (digs bs).take (j + 1)) := by rw [hdt, ← List.append_assoc]; exact hP2
          have hm2 : w2.iterPos w.heap.size = j + 1 := by simp [World.iterPos, hK2]
          have hR : codeAt w base b w.heap.size v l bs w2 := by
            refine ⟨j + 1, v2, by omega, hK2, hP3, (hto.then ht1 (by simp)).then ht2 (fun y hy => ?_), fun g hg => ?_⟩
            · simp only [List.mem_cons, Option.mem_toList] at hy ⊢
              rcases hy with hy | hy
              · exact .inl (.inl hy)
              · rcases hown y hy with h1 | h1
                · exact .inl (.inr h1)
                · exact .inr h1
            · rcases hown2 g hg with h1 | h1
              · exact hown g h1
              · exact .inr (Nat.le_trans (Nat.le_trans hto.size ht1.size) h1)
          have hM : bs.length - w2.iterPos w.heap.size < bs.length - wr.iterPos w.heap.size := by rw [hm2, hmeas]; omega
          have HR := Lib.hid hR
          have HM := Lib.hid hM
          clear hP1 hK1 hdt hto hown ht1 hvK hmeas hK2 hP3 hm2 hR hM hP2 ht2 hown2 hnx HH
          go_wp2_with fail
          go_roundw
          case rel => exact HR.out
          case measure => exact HM.out
        · obtain rfl : j = bs.length := by omega
          have hnx := fun ty => Lib.run_next_end_at (P := Try.prog) wr w.heap.size (str bs) bs.length ty hK (by rw [str_size]; omega)
          have HH := Lib.hid (And.intro hP (And.intro hto hown))
          clear hP hto hown hvK hP0 hit hik
          go_wp2_with fail
          go_ret
          obtain ⟨hP, hto, hown⟩ := HH.out
          rw [List.take_of_length_le (by rw [digs_length]; exact Nat.le_refl _)] at hP
          exact ⟨rfl, v1, hP, hto, hown⟩
end Go.Proofs.Ytheihohojmcbiaa
