/-
  Law 03: its helpers: Long, gets, puts, three, awake, refuses.
-/
import Derived.Test.YtboipjdgccbjmaaPrefixLaw
namespace Go.Mine
open Go.RowKit
/-- What a tree answers to any place. -/
def getTree (t : List TNode) (bs : List UInt8) (i : Int) : Int × Int × Int := if i < 0 then (0, 0, 3) else getF t 0 0 (bitsFrom bs i.toNat)
/-- Are codes more than are gone through? -/
def LongB (l : List (List UInt8)) : Bool := ((l.take 61).any fun s => decide (40 < s.length)) || (decide (60 < l.length) && decide (l.length ≤ 300))
def cs3 : List (List UInt8) := [[49], [48, 49], [48, 48, 49]]
def ns3 : List Int := [7, 8, 7]
def T3 : List TNode := [⟨2, 1, false, 0⟩, ⟨0, 0, true, 7⟩, ⟨4, 3, false, 0⟩, ⟨0, 0, true, 8⟩, ⟨0, 5, false, 0⟩, ⟨0, 0, true, 7⟩]
theorem build3 : build [TNode.mt] (kvOf (cs3.zip ns3)) = some T3 := by decide
end Go.Mine
namespace Go.Proofs.Ytboipjdgccbjmaa
open Go.RowKit Go.Mine

set_option maxRecDepth 100000 in
theorem TGet_all (w : World) {base b mb n m : Nat} {tv : Value} {t : List TNode} {f : Int → Option ByteArray} (h : Tr w base b tv mb n t f m) (hm : 0 < m) (v : Value) (bs : List UInt8) (hr : Rd w 1 v bs.length (byteCells bs)) (hl : bs.length ≤ 1000000000) (i : Int) (hi : i ≤ 9223372036854775807) :
    Calls Try.prog 42 #[.pointer (some ⟨b, 0, none⟩), v, .int .i64 i] w fun e w' => e = .returned (.tuple #[.int .i64 (getTree t bs i).1, .int .i64 (getTree t bs i).2.1, .int .i64 (getTree t bs i).2.2]) ∧ OnlyIn [] w w' := by
  unfold getTree
  by_cases hn : i < 0
  · rw [if_pos hn]
    obtain ⟨-, A, c, rfl, -⟩ := hr
    exact TGet_neg w h hm A _ c i hn
  · rw [if_neg hn]
    obtain ⟨k, rfl⟩ := Int.eq_ofNat_of_zero_le (by omega : 0 ≤ i)
    exact TGet_any w h hm v bs hr hl k (by omega)

set_option maxRecDepth 100000 in
theorem Long_any (w : World) (v : Value) (l : List (List UInt8)) (hr : Rd w 1 v l.length (txtCells l)) (hl : l.length ≤ 9223372036854775807) (hs : ∀ s ∈ l, s.length ≤ 9223372036854775807) :
    Calls Try.prog 35 #[v] w fun e w' => e = .returned (.bool (LongB l)) ∧ w = w' := by
  obtain ⟨-, A, c, rfl, hc, hA⟩ := hr
  obtain ⟨N, hN⟩ : ∃ N, l.length = N := ⟨_, rfl⟩
  rw [hN] at hc hA hl ⊢
  have hcell : ∀ k (h : k < N), ∃ g off, A = some ⟨g, off, none⟩ ∧ w.cell? ⟨g, off + k, none⟩ = some (.string (str (l[k]'(by rw [hN]; exact h)))) := by
    intro k h
    obtain ⟨g, off, e1, e2⟩ := hA (by omega)
    exact ⟨g, off, e1, e2 k _ (txtCells_get _)⟩
  have HC := Lib.hid hcell
  have HL := Lib.hid hs
  obtain ⟨R, hR⟩ : ∃ R, LongB l = R := ⟨_, rfl⟩
  rw [hR]
  have HR := Lib.hid hR
  clear hA hcell hs hR
  go_enter Try.func35, Try.ntmps35
  go_wp2_with fail
  go_loop [3] (fun i => ∃ k : Nat, k ≤ N ∧ k ≤ 61 ∧ i = .int .i64 (k : Int) ∧ Hid (∀ s ∈ l.take k, s.length ≤ 40)) (fun i => N - (intOf i).toNat)
  case atStart => exact ⟨0, by omega, by omega, rfl, Lib.hid (fun s hs => by simp at hs)⟩
  case round =>
    obtain ⟨k, hk, hk61, rfl, HZ⟩ := hrel
    by_cases hlt : k < N
    · by_cases hlt2 : k < 61
      · obtain ⟨g, off, rfl, c1⟩ := HC.out k hlt
        have hkl : k < l.length := by rw [hN]; exact hlt
        have hle := HL.out _ (List.getElem_mem hkl)
        obtain ⟨s, hs⟩ : ∃ s, l[k]'hkl = s := ⟨_, rfl⟩
        rw [hs] at c1 hle
        have hss := str_size s
        obtain ⟨z, hz⟩ : ∃ z, s.length = z := ⟨_, rfl⟩
        rw [hz] at hss hle
        by_cases h40 : 40 < z
        · have hres : R = true := by
            rw [← HR.out, LongB]
            have : ((l.take 61).any fun s => decide (40 < s.length)) = true := by
              rw [List.any_eq_true]
              refine ⟨s, ?_, by simp [hz, h40]⟩
              rw [← hs]
              exact List.mem_iff_getElem.2 ⟨k, by rw [List.length_take]; omega, by simp⟩
            rw [this]; rfl
          have HQ := Lib.hid hres
          clear hs hz hres HZ
          go_wp2_with fail
          go_ret
          exact ⟨by rw [HQ.out]; rfl, rfl⟩
        · have HZ2 : Hid (∀ s ∈ l.take (k + 1), s.length ≤ 40) := Lib.hid (fun u hu => by
            rw [List.take_add_one, List.getElem?_eq_getElem hkl, hs] at hu
            rcases List.mem_append.1 hu with h | h
            · exact HZ.out u h
            · simp at h; rw [h, hz]; omega)
          clear hs hz HZ
          go_wp2_with fail
          go_round
          case rel => exact ⟨k + 1, by omega, by omega, by go_num, HZ2⟩
          case measure => simp [intOf]; omega
      · obtain rfl : k = 61 := by omega
        have hres : R = decide (N ≤ 300) := by
          rw [← HR.out, LongB]
          have : ((l.take 61).any fun s => decide (40 < s.length)) = false := by
            rw [List.any_eq_false]
            intro s hs
            have := HZ.out s hs
            simp; omega
          rw [this, Bool.false_or, hN, decide_eq_true (show 60 < N by omega), Bool.true_and]
        have h60 : decide ((60 : Int) < (N : Int)) = true := decide_eq_true (by omega)
        have h300 : decide ((N : Int) ≤ 300) = decide (N ≤ 300) := by rw [decide_eq_decide]; omega
        have HQ := Lib.hid hres
        clear hres HZ
        go_wp2_with fail
        go_ret
        exact ⟨by rw [HQ.out]; first | rfl | (simp; omega) | simp, rfl⟩
    · obtain rfl : k = N := by omega
      have hres : R = (decide (60 < k) && decide (k ≤ 300)) := by
        rw [← HR.out, LongB]
        have : ((l.take 61).any fun s => decide (40 < s.length)) = false := by
          rw [List.any_eq_false]
          intro s hs
          have hs2 : s ∈ l.take k := by rw [List.take_of_length_le (by omega)]; exact List.mem_of_mem_take hs
          have := HZ.out s hs2
          simp; omega
        rw [this, Bool.false_or, hN]
      have h300 : decide ((k : Int) ≤ 300) = true := decide_eq_true (by omega)
      have hres2 : R = decide (60 < k) := by rw [hres, decide_eq_true (show k ≤ 300 by omega), Bool.and_true]
      have HQ := Lib.hid hres2
      have hRR : True := trivial
      clear hres hres2 HZ
      by_cases h60 : 60 < k
      · have hz : decide ((60 : Int) < (k : Int)) = true := decide_eq_true (by omega)
        go_wp2_with fail
        go_ret
        exact ⟨by rw [HQ.out, decide_eq_true h60]; rfl, rfl⟩
      · have hz : decide ((60 : Int) < (k : Int)) = false := decide_eq_false (by omega)
        go_wp2_with fail
        go_ret
        exact ⟨by rw [HQ.out, decide_eq_false h60]; rfl, rfl⟩

set_option maxRecDepth 100000 in
theorem gets_any (w : World) {base b mb n m : Nat} {tv : Value} {t : List TNode} {f : Int → Option ByteArray} (h : Tr w base b tv mb n t f m) (hm : 0 < m) (v : Value) (bs : List UInt8) (hr : Rd w 1 v bs.length (byteCells bs)) (hl : bs.length ≤ 1000000000) (i : Int) (hi : i ≤ 9223372036854775807) (want size err : Int) :
    Calls Try.prog 48 #[.pointer (some ⟨b, 0, none⟩), v, .int .i64 i, .int .i64 want, .int .i64 size, .int .i64 err] w fun e w' => e = .returned (.bool (decide (getTree t bs i = (want, size, err)))) ∧ OnlyIn [] w w' := by
  have hg := TGet_all w h hm v bs hr hl i hi
  obtain ⟨A, c, rfl⟩ : ∃ A c, v = .slice A bs.length c := by
    obtain ⟨-, A, c, rfl, -⟩ := hr
    exact ⟨A, c, rfl⟩
  obtain ⟨⟨x, k, er⟩, hx⟩ : ∃ x, getTree t bs i = x := ⟨_, rfl⟩
  rw [hx] at hg ⊢
  simp only at hg
  clear hx h hr
  obtain ⟨r, hr⟩ : ∃ r, decide ((x, k, er) = (want, size, err)) = r := ⟨_, rfl⟩
  rw [hr]
  by_cases h1 : x = want
  · by_cases h2 : k = size
    · by_cases h3 : er = err
      · subst h1; subst h2; subst h3
        have hres : r = true := by rw [← hr]; simp
        have b1 : (x == x) = true := by simp
        have b2 : (k == k) = true := by simp
        have b3 : (er == er) = true := by simp
        subst hres
        clear hr
        go_enter Try.func48, Try.ntmps48
        go_wp2_with (go_at_call 42; refine hg.mono ?_; rintro e w1 ⟨rfl, ht1⟩)
        go_ret
        exact ⟨by simp, ht1⟩
      · subst h1; subst h2
        have hres : r = false := by rw [← hr]; simp; exact h3
        have b1 : (x == x) = true := by simp
        have b2 : (k == k) = true := by simp
        have b3 : (er == err) = false := by simpa using h3
        subst hres
        clear hr
        go_enter Try.func48, Try.ntmps48
        go_wp2_with (go_at_call 42; refine hg.mono ?_; rintro e w1 ⟨rfl, ht1⟩)
        go_ret
        exact ⟨by simp, ht1⟩
    · subst h1
      have hres : r = false := by rw [← hr]; simp; exact fun e => absurd e h2
      have b1 : (x == x) = true := by simp
      have b2 : (k == size) = false := by simpa using h2
      subst hres
      clear hr
      go_enter Try.func48, Try.ntmps48
      go_wp2_with (go_at_call 42; refine hg.mono ?_; rintro e w1 ⟨rfl, ht1⟩)
      go_ret
      exact ⟨by simp, ht1⟩
  · have hres : r = false := by rw [← hr]; simp; exact fun e => absurd e h1
    have b1 : (x == want) = false := by simpa using h1
    subst hres
    clear hr
    go_enter Try.func48, Try.ntmps48
    go_wp2_with (go_at_call 42; refine hg.mono ?_; rintro e w1 ⟨rfl, ht1⟩)
    go_ret
    exact ⟨by simp, ht1⟩

set_option maxRecDepth 100000 in
theorem puts_any (w : World) {base b mb n m : Nat} {tv : Value} {t : List TNode} {f : Int → Option ByteArray} (h : Tr w base b tv mb n t f m) (hm : 0 < m) (x : Int) (hx : -9223372036854775808 ≤ x ∧ x ≤ 9223372036854775807) (want : List UInt8) (err : Int) :
    Calls Try.prog 49 #[.pointer (some ⟨b, 0, none⟩), .int .i64 x, .string (str want), .int .i64 err] w fun e w' => e = .returned (.bool (decide (putOf f x = (str want, err)))) ∧ OnlyIn [] w w' := by
  have hg := TPut_any w h hm x hx
  obtain ⟨⟨s, er⟩, hs⟩ : ∃ p, putOf f x = p := ⟨_, rfl⟩
  rw [hs] at hg ⊢
  simp only at hg
  clear hs h
  obtain ⟨s, rfl⟩ : ∃ l, s = str l := ⟨s.data.toList, by cases s; simp [str]⟩
  have hbq := str_beq s want
  obtain ⟨r, hr⟩ : ∃ r, decide ((str s, er) = (str want, err)) = r := ⟨_, rfl⟩
  rw [hr]
  have hinj : str s = str want → s = want := fun e => by
    have := congrArg (fun x : ByteArray => x.data.toList) e
    simpa [str] using this
  by_cases h1 : s = want
  · subst h1
    rw [decide_eq_true rfl] at hbq
    by_cases h3 : er = err
    · subst h3
      have hres : r = true := by rw [← hr]; simp
      have b3 : (er == er) = true := by simp
      subst hres
      clear hr hinj
      go_enter Try.func49, Try.ntmps49
      go_wp2_with (go_at_call 44; refine hg.mono ?_; rintro e w1 ⟨rfl, ht1⟩)
      go_ret
      exact ⟨by simp, ht1⟩
    · have hres : r = false := by rw [← hr]; simp; exact h3
      have b3 : (er == err) = false := by simpa using h3
      subst hres
      clear hr hinj
      go_enter Try.func49, Try.ntmps49
      go_wp2_with (go_at_call 44; refine hg.mono ?_; rintro e w1 ⟨rfl, ht1⟩)
      go_ret
      exact ⟨by simp, ht1⟩
  · have hres : r = false := by rw [← hr]; simp; exact fun e => absurd (hinj e) h1
    rw [decide_eq_false h1] at hbq
    subst hres
    clear hr hinj
    go_enter Try.func49, Try.ntmps49
    go_wp2_with (go_at_call 44; refine hg.mono ?_; rintro e w1 ⟨rfl, ht1⟩)
    go_ret
    exact ⟨by simp, ht1⟩
end Go.Proofs.Ytboipjdgccbjmaa
