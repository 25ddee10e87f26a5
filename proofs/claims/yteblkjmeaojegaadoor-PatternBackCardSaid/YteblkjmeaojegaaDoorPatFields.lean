/-
  Package strings: FieldsSeq, at a text of ASCII bytes whose fields are known.
-/
import Derived.Test.YteblkjmeaojegaaDoorPatSpec
import Derived.Test.YteblkjmeaojegaaDoorRange
import Derived.Test.YteblkjmeaojegaaDoorPenCode
import Derived.Lib.Space
namespace Go.Mine
open Go.RowKit
/-- The table of white space lies in block 0. -/
def Spaced (w : World) : Prop := ∀ i, i < 256 → w.cell? ⟨0, i, none⟩ = some (.int .u8 (Lib.asciiSpaceTab.getD i 0))
theorem Spaced.only {w w' : World} (h : Spaced w) (ht : OnlyIn [] w w') : Spaced w' := fun i hi => ht.cell (h i hi) (by simp)
theorem Spaced.yes {w : World} (h : Spaced w) {n : Nat} (hn : n = 10 ∨ n = 32) : w.cell? ⟨0, n, none⟩ = some (.int .u8 1) := by
  have := h n (by omega)
  rw [Lib.asciiSpaceTab_at n (by omega)] at this
  rcases hn with rfl | rfl <;> exact this
theorem Spaced.no {w : World} (h : Spaced w) {n : Nat} (h1 : 33 ≤ n) (h2 : n < 128) : w.cell? ⟨0, n, none⟩ = some (.int .u8 0) := by
  have := h n (by omega)
  rw [Lib.asciiSpaceTab_at n (by omega)] at this
  have hs : Lib.isSp (UInt8.ofNat n) = false := by
    have : ∀ m : Fin 95, Lib.isSp (UInt8.ofNat (33 + m.val)) = false := by decide +kernel
    have h3 := this ⟨n - 33, by omega⟩
    rwa [show 33 + (n - 33) = n by omega] at h3
  rw [hs] at this
  exact this
theorem str_cut (a : List UInt8) (i j : Nat) : (str a).extract i j = str ((a.drop i).take (j - i)) := by
  apply ByteArray.ext
  rw [ByteArray.data_extract]
  simp [str, List.extract_toArray, List.extract_eq_take_drop]
end Go.Mine
namespace Go.Proofs.YteblkjmeaojegaaDoor
open Go.RowKit Go.Mine Go.Shelf

attribute [local go_sem] Oper.semAt_some

set_option maxRecDepth 100000 in
theorem fields_any (w : World) (s : ByteArray) : Calls Tryd.prog 37 #[.string s] w fun e w' => e = .returned (.func (.func 46) #[] #[.pointer (some ⟨w.heap.size, 0, none⟩)]) ∧ w.alloc (.cells #[.string s] 9) = w' := by
  have hmf : ∀ (fn : Fn) (first cap : Array Value) (w : World), (Instr.makeFunc fn first cap).run Tryd.prog w = .ok (.func fn first cap) w := fun _ _ _ _ => rfl
  go_enter Tryd.func37, Tryd.ntmps37
  go_wp2
  go_ret
  exact ⟨rfl, rfl⟩

set_option maxRecDepth 100000 in
set_option maxHeartbeats 2000000 in
theorem fields1_any (l Bs : Nat) (t : List UInt8) (cs : List (List UInt8)) (htl : t.length ≤ 1000) (hF : fieldsAt t cs t 0 (-1) 0 = true) (C : Nat → World → Prop)
    (hS : ∀ k W W', OnlyIn [] W W' → C k W → C k W')
    (hB : ∀ k W, C k W → Blk W Bs 9 [.string (str t)] ∧ Spaced W)
    (hY : ∀ k W, k < cs.length → C k W → YieldAt Fence.wide 0 Tryd.prog l #[.string (str (cs.getD k []))] W fun e W' => e = .returned (.bool true) ∧ C (k + 1) W')
    (W : World) (hC : C 0 W) :
    Calls Tryd.prog 46 #[.func (.yield l) #[] #[], .pointer (some ⟨Bs, 0, none⟩)] W fun e W' => (∃ v, e = .returned v) ∧ C cs.length W' := by
  have HS := Lib.hid hS
  have HY := Lib.hid hY
  have HB := Lib.hid hB
  have HF := Lib.hid hF
  obtain ⟨N, hN⟩ : ∃ N, t.length = N := ⟨_, rfl⟩
  rw [hN] at htl
  have hsz : (str t).size = N := by rw [str_size, hN]
  obtain ⟨S, hS0⟩ : ∃ S, str t = S := ⟨_, rfl⟩
  have HST := Lib.hid (And.intro hS0 hN)
  rw [hS0] at hsz
  clear hS hY hB hF hS0 hN
  (refine (callsIn_wide (n := 0)).1 ?_; refine callsIn_of_wp Tryd.func46 rfl trivial ?_ rfl; simp only [Tryd.ntmps46, List.size_toArray, List.length_cons, List.length_nil, Nat.reduceAdd, Nat.reduceSub, Array.replicate_succ, Array.replicate_zero, List.push_toArray, List.append_toArray, List.nil_append, List.cons_append])
  gi_wp2_with fail
  gi_loopw [3, 4] (fun s i wr => ∃ (k c : Nat) (st : Int), k ≤ N ∧ i = .int .i64 (k : Int) ∧ s = .int .i64 st ∧ -1 ≤ st ∧ st ≤ (k : Int) ∧ Hid (fieldsAt t cs (t.drop k) k st c = true) ∧ C c wr) (fun _ i _ => N - (intOf i).toNat)
  case atStart => exact ⟨0, 0, -1, by omega, rfl, rfl, by omega, by omega, HF, hC⟩
  case round =>
    clear hC
    obtain ⟨k, c, st, hk, rfl, rfl, hs1, hs2, HFK, hCk⟩ := hrel
    obtain ⟨hb, hsp⟩ := HB.out c wr hCk
    rw [HST.out.1] at hb
    have c0 := hb.cell (i := 0) rfl
    by_cases hlt : k < N
    · have hkl : k < t.length := by rw [HST.out.2]; exact hlt
      obtain ⟨x, hx⟩ : ∃ x, t[k]'hkl = x := ⟨_, rfl⟩
      have hf := HFK.out
      rw [List.drop_eq_getElem_cons hkl, hx, fieldsAt] at hf
      simp only [Bool.and_eq_true, decide_eq_true_eq] at hf
      obtain ⟨hxr, hf⟩ := hf
      have hks : k < S.size := by omega
      obtain ⟨n, hn⟩ : ∃ n, x.toNat = n := ⟨_, rfl⟩
      have hget : (S[k]'hks).toNat = n := by
        have e1 := HST.out.1
        subst e1
        rw [str_get hks hkl, hx, hn]
      have hgi : (((S[k]'hks).toNat : Nat) : Int) = (n : Int) := by rw [hget]
      have hki : (k : Int) < (N : Int) := by omega
      have hn8 : n < 128 := by
        rcases hxr with h | h | h
        · subst h; rw [← hn]; decide
        · subst h; rw [← hn]; decide
        · rw [← hn]; exact UInt8.lt_iff_toNat_lt.1 h.2
      have hw1 : IntKind.i32.wrap (n : Int) = (n : Int) := by rw [IntKind.wrap_i32]; omega
      have hd1 : decide ((128 : Int) ≤ (n : Int)) = false := decide_eq_false (by omega)
      have hn256 : (n : Int) < 256 := by omega
      have hwk : IntKind.i64.wrap ((k : Int) + 1) = (k : Int) + 1 := by rw [IntKind.wrap_i64]; omega
      have hmeas : N - (k + 1) < N - k := by omega
      by_cases hsp1 : x = 10 ∨ x = 32
      · have hc1 := hsp.yes (n := n) (by rcases hsp1 with h | h <;> subst h <;> rw [← hn] <;> decide)
        rw [if_pos hsp1] at hf
        by_cases hst : 0 ≤ st
        · rw [if_pos hst] at hf
          simp only [Bool.and_eq_true, decide_eq_true_eq] at hf
          obtain ⟨⟨⟨hf1, hf2⟩, hf3⟩, hf4⟩ := hf
          have hyy := HY.out c wr hf2 hCk
          obtain ⟨q, hq⟩ : ∃ q, cs.getD c [] = q := ⟨_, rfl⟩
          rw [hq] at hyy hf3
          obtain ⟨fn, tmps, assign, body, hy, hR⟩ := hyy
          obtain ⟨a, rfl⟩ : ∃ a : Nat, st = (a : Int) := ⟨st.toNat, by omega⟩
          have hcut : S.extract a k = str q := by
            rw [← HST.out.1, str_cut]
            simp only [Int.toNat_natCast] at hf3
            rw [hf3]
          have hak : (a : Int) ≤ (k : Int) := by omega
          have HR := Lib.hid (And.intro hf4 hf2)
          clear hf3 hf4 hf1 hf2 hxr hx hsp hb HFK hget hn hq hsp1
          gi_wp2_with fail
          refine ⟨rfl, hR.mono ?_⟩
          rintro e w2 ⟨rfl, hC2⟩
          clear hR hy
          gi_wp2_with fail
          go_roundw
          case rel => exact ⟨k + 1, c + 1, -1, by omega, by go_num, rfl, by omega, by omega, Lib.hid HR.out.1, hC2⟩
          case measure => simp [intOf]; exact hmeas
        · rw [if_neg hst] at hf
          have hstf : decide ((0 : Int) ≤ st) = false := decide_eq_false hst
          have HR := Lib.hid hf
          clear hf hxr hx hsp hb HFK hget hn hsp1
          gi_wp2_with fail
          go_roundw
          case rel => exact ⟨k + 1, c, st, by omega, by go_num, rfl, by omega, by omega, Lib.hid HR.out, hCk⟩
          case measure => simp [intOf]; exact hmeas
      · have hc1 := hsp.no (n := n) (by
          rcases hxr with h | h | h
          · exact absurd (.inl h) hsp1
          · exact absurd (.inr h) hsp1
          · rw [← hn]; exact UInt8.le_iff_toNat_le.1 h.1) hn8
        rw [if_neg hsp1] at hf
        by_cases hst : 0 ≤ st
        · rw [if_pos hst] at hf
          have hstf : decide (st < (0 : Int)) = false := decide_eq_false (by omega)
          have HR := Lib.hid hf
          clear hf hxr hx hsp hb HFK hget hn hsp1
          gi_wp2_with fail
          go_roundw
          case rel => exact ⟨k + 1, c, st, by omega, by go_num, rfl, by omega, by omega, Lib.hid HR.out, hCk⟩
          case measure => simp [intOf]; exact hmeas
        · rw [if_neg hst] at hf
          have hstf : decide (st < (0 : Int)) = true := decide_eq_true (by omega)
          have HR := Lib.hid hf
          clear hf hxr hx hsp hb HFK hget hn hsp1
          gi_wp2_with fail
          go_roundw
          case rel => exact ⟨k + 1, c, (k : Int), by omega, by go_num, rfl, by omega, by omega, Lib.hid HR.out, hCk⟩
          case measure => simp [intOf]; exact hmeas
    · obtain rfl : k = N := by omega
      have hf := HFK.out
      have hdr : t.drop k = [] := List.drop_of_length_le (by rw [HST.out.2]; exact Nat.le_refl _)
      rw [hdr, fieldsAt] at hf
      by_cases hst : 0 ≤ st
      · rw [if_pos hst] at hf
        simp only [Bool.and_eq_true, decide_eq_true_eq] at hf
        obtain ⟨⟨hf1, hf2⟩, hf3⟩ := hf
        have hyy := HY.out c wr (by omega) hCk
        obtain ⟨q, hq⟩ : ∃ q, cs.getD c [] = q := ⟨_, rfl⟩
        rw [hq] at hyy hf2
        obtain ⟨fn, tmps, assign, body, hy, hR⟩ := hyy
        obtain ⟨a, rfl⟩ : ∃ a : Nat, st = (a : Int) := ⟨st.toNat, by omega⟩
        have hcut : S.extract a k = str q := by
          rw [← HST.out.1, str_cut]
          simp only [Int.toNat_natCast] at hf2
          rw [← hf2, List.take_of_length_le (by rw [List.length_drop, HST.out.2]; exact Nat.le_refl _)]
        have hak : (a : Int) ≤ (k : Int) := by omega
        have HR := Lib.hid hf3
        clear hf1 hf2 hf3 hsp hb HFK hq hdr
        gi_wp2_with fail
        refine ⟨rfl, hR.mono ?_⟩
        rintro e w2 ⟨rfl, hC2⟩
        clear hR hy
        gi_wp2_with fail
        go_end0
        exact ⟨⟨_, rfl⟩, by rw [← HR.out]; exact hC2⟩
      · rw [if_neg hst] at hf
        have hstf : decide ((0 : Int) ≤ st) = false := decide_eq_false hst
        have HR := Lib.hid (of_decide_eq_true hf)
        clear hf hsp hb HFK hdr
        gi_wp2_with fail
        go_end0
        exact ⟨⟨_, rfl⟩, by rw [← HR.out]; exact hCk⟩
end Go.Proofs.YteblkjmeaojegaaDoor
