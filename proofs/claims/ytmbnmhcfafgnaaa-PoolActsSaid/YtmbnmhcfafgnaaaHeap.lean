/-
  container/heap: Push, Pop, up, down, at an interface value whose methods are known by their contracts.
-/
import Derived.Test.YtmbnmhcfafgnaaaHeapSpec
import Derived.Test.YtmbnmhcfafgnaaaBase
import Derived.Test.YtmbnmhcfafgnaaaSlice
import Derived.Test.YtmbnmhcfafgnaaaRows
import Derived.StillTailTactics
import Derived.Deep.RegionWith
import Derived.Deep.RegionHeld3
namespace Go.Mine
open Go.RowKit
theorem recv_via (P : Program) (W : World) (a : Addr) (t e : TypeId) (hu : P.underlying t = some (.pointer e)) (o : Option String) : (receiverAt t (.val (.pointer (some a))) false o).run P W = (loadVar e a).run P W := by
  have hb : ∀ s, (Builtin.ssaWrapNilChk_ #[t] t #[.pointer (some a), strVal "", strVal s]).run P W = .ok (.pointer (some a)) W := fun s => rfl
  cases o <;> simp [receiverAt, run_underlying hu, Place.get, hb, asAddr]
/-- A value's method, called at a pointer to it: the receiver is loaded. -/
theorem method_via (P : Program) (T e : TypeId) (name : String) (f : FuncId) (hi : (P.info? T).bind (fun i => (i.methods.find? (·.name == name)).map fun m => (m.path.toList, m.func)) = some ([], some (f, false)))
    (hu : P.underlying T = some (.pointer e)) (n : Nat) (W : World) (a : Addr) : (method (n + 1) T (.pointer (some a)) name).run P W = ((loadVar e a).run P W).andThen fun v w' => .ok (f, v) w' := by
  obtain ⟨i, hi, hm⟩ := Option.bind_eq_some_iff.1 hi
  obtain ⟨m, hm, hp⟩ := Option.map_eq_some_iff.1 hm
  simp only [Prod.mk.injEq] at hp
  unfold method
  simp only [Sem.run_bind, typeInfo]
  simp [hi, hm, hp.1, hp.2, follow, recv_via P W a T e hu]
end Go.Mine
namespace Go.Proofs.Ytmbnmhcfafgnaaa
open Go.RowKit Go.Mine

/-- What is asked of a heap's five methods: St l W: in world W it holds the list l. -/
structure HeapI {α : Type} (T : TypeId) (rv : Value) (gn gl gs gp gq : Nat) (lt : α → α → Bool) (box : α → Value) (St : List α → World → Prop) : Prop where
  weak : Weak lt
  small : ∀ {l W}, St l W → l.length ≤ 1000000000
  eN : ∀ args w, (callFunc gn args).run Try.prog w = .ok (.enter gn args) w
  eL : ∀ args w, (callFunc gl args).run Try.prog w = .ok (.enter gl args) w
  eS : ∀ args w, (callFunc gs args).run Try.prog w = .ok (.enter gs args) w
  eP : ∀ args w, (callFunc gp args).run Try.prog w = .ok (.enter gp args) w
  eQ : ∀ args w, (callFunc gq args).run Try.prog w = .ok (.enter gq args) w
  len : ∀ {l W}, St l W → ∃ r, (method 228 T rv "Len").run Try.prog W = .ok (gn, r) W ∧ Calls Try.prog gn #[r] W fun e w' => e = .returned (.int .i64 (l.length : Int)) ∧ St l w'
  less : ∀ {l W} {i j : Nat} {x y}, St l W → l[i]? = some x → l[j]? = some y → ∃ r, (method 228 T rv "Less").run Try.prog W = .ok (gl, r) W ∧ Calls Try.prog gl #[r, .int .i64 (i : Int), .int .i64 (j : Int)] W fun e w' => e = .returned (.bool (lt x y)) ∧ St l w'
  swap : ∀ {l W} {i j : Nat}, St l W → i < l.length → j < l.length → ∃ r, (method 228 T rv "Swap").run Try.prog W = .ok (gs, r) W ∧ Calls Try.prog gs #[r, .int .i64 (i : Int), .int .i64 (j : Int)] W fun e w' => e = .returned (.tuple #[]) ∧ St (swapL l i j) w'
  push : ∀ {l W} (x), St l W → l.length < 1000 → ∃ r, (method 228 T rv "Push").run Try.prog W = .ok (gp, r) W ∧ Calls Try.prog gp #[r, box x] W fun e w' => e = .returned (.tuple #[]) ∧ St (l ++ [x]) w'
  pop : ∀ {l W} {x}, St (l ++ [x]) W → ∃ r, (method 228 T rv "Pop").run Try.prog W = .ok (gq, r) W ∧ Calls Try.prog gq #[r] W fun e w' => e = .returned (box x) ∧ St l w'

section
variable {α : Type} {T : TypeId} {rv : Value} {gn gl gs gp gq : Nat} {lt : α → α → Bool} {box : α → Value} {St : List α → World → Prop}

set_option maxRecDepth 100000 in
set_option maxHeartbeats 2000000 in
theorem up_any (H : HeapI T rv gn gl gs gp gq lt box St) {l : List α} {j : Nat} {w : World} (hS : St l w) (hu : UpAt lt l l.length j) (hj : j < l.length) :
    Calls Try.prog 75 #[.iface T rv, .int .i64 (j : Int)] w fun e w' => e = .returned (.tuple #[]) ∧ ∃ l', l'.Perm l ∧ HeapN lt l' l'.length ∧ St l' w' := by
  have eL := H.eL
  have eS := H.eS
  have HH := Lib.hid H
  clear H
  go_enter Try.func75, Try.ntmps75
  go_wp2_with fail
  go_loopw [1, 4] (fun v _ wr => ∃ (k : Nat) (m : List α), v = .int .i64 (k : Int) ∧ Hid (k < m.length ∧ m.Perm l ∧ UpAt lt m m.length k ∧ St m wr)) (fun v _ _ => (intOf v).toNat)
  case atStart => exact ⟨j, l, rfl, Lib.hid ⟨hj, .refl _, hu, hS⟩⟩
  case round =>
    clear hS hu hj
    obtain ⟨k, m, rfl, HR⟩ := hrel
    obtain ⟨hk, hp, hu, hS⟩ := HR.out
    have hsm := HH.out.small hS
    have hkb : (k : Int) ≤ 1000000000 := by omega
    by_cases h0 : k = 0
    · subst h0
      have hfin : ∃ l', l'.Perm l ∧ HeapN lt l' l'.length ∧ St l' wr := ⟨m, hp, hu.done0, hS⟩
      have HF := Lib.hid hfin
      clear hfin hp hu hS HR
      go_wp2_with fail
      go_end0
      exact ⟨rfl, HF.out⟩
    · have hpl := par_lt (i := k) (by omega)
      obtain ⟨q, hq⟩ : ∃ q, par k = q := ⟨_, rfl⟩
      have hq2 : q = (k - 1) / 2 := by rw [← hq]; rfl
      rw [hq] at hpl
      have hd1 : IntKind.i64.wrap ((k : Int) - 1) = (k : Int) - 1 := by rw [IntKind.wrap_i64]; omega
      have hd2 : ((k : Int) - 1).tdiv 2 = (q : Int) := by rw [Int.tdiv_eq_ediv_of_nonneg (by omega)]; omega
      have hd3 : ((k : Int) - 1) / 2 = (q : Int) := by omega
      have hne : ((q : Int) == (k : Int)) = false := by simp; omega
      obtain ⟨x, hx⟩ : ∃ x, m[k]? = some x := ⟨_, List.getElem?_eq_getElem hk⟩
      obtain ⟨y, hy⟩ : ∃ y, m[q]? = some y := ⟨_, List.getElem?_eq_getElem (by omega)⟩
      obtain ⟨r, hm, hc⟩ := HH.out.less hS hx hy
      have hk0 : 0 < k := by omega
      have HK := Lib.hid (And.intro hx (And.intro hy (And.intro hq hq2)))
      clear hx hy hp hu hS hsm
      clear hq hq2
      go_wp2_with fail
      refine hc.mono ?_
      rintro e w1 ⟨rfl, hS1⟩
      clear hm hc
      obtain ⟨hk, hp, hu, -⟩ := HR.out
      obtain ⟨hx, hy, hq, hq2⟩ := HK.out
      cases hlt : lt x y with
      | false =>
        have hfin : ∃ l', l'.Perm l ∧ HeapN lt l' l'.length ∧ St l' w1 := ⟨m, hp, hu.done hx (by rw [hq]; exact hy) hlt, hS1⟩
        have HF := Lib.hid hfin
        clear hfin hp hu hS1 HR hx hy hq hq2 HK
        go_wp2_with fail
        go_end0
        exact ⟨rfl, HF.out⟩
      | true =>
        have hu2 := hu.step HH.out.weak hk0 hk (Nat.le_refl _) hx (by rw [hq]; exact hy) hlt
        obtain ⟨r2, hm2, hc2⟩ := HH.out.swap hS1 (i := q) (j := k) (by omega) hk
        rw [hq] at hu2
        have hp2 := (swapL_perm (l := m) (i := q) (j := k) (by omega) hk).trans hp
        have HT := Lib.hid (And.intro hu2 (And.intro hp2 (swapL_length m q k)))
        have hqm : q < m.length := by omega
        have HQ := Lib.hid hqm
        clear hqm hp hu hS1 HR hx hy hq hq2 HK hu2 hp2
        go_wp2_with fail
        refine hc2.mono ?_
        rintro e w2 ⟨rfl, hS2⟩
        have HS2 := Lib.hid hS2
        clear hm2 hc2 hS2
        go_wp2_with fail
        go_roundw
        case rel => exact ⟨q, swapL m q k, rfl, Lib.hid ⟨by rw [HT.out.2.2]; exact HQ.out, HT.out.2.1, by rw [HT.out.2.2]; exact HT.out.1, HS2.out⟩⟩
        case measure => simp [intOf]; omega

set_option maxRecDepth 100000 in
set_option maxHeartbeats 4000000 in
theorem down_any (H : HeapI T rv gn gl gs gp gq lt box St) {l : List α} {n : Nat} {w : World} (hS : St l w) (hu : DownAt lt l n 0) (hn : n ≤ l.length) :
    Calls Try.prog 72 #[.iface T rv, .int .i64 0, .int .i64 (n : Int)] w fun e w' => (∃ v, e = .returned v) ∧ ∃ l', l'.Perm l ∧ HeapN lt l' n ∧ (∀ k, n ≤ k → l'[k]? = l[k]?) ∧ St l' w' := by
  have eL := H.eL
  have eS := H.eS
  have HH := Lib.hid H
  have hsm := H.small hS
  have hnb : (n : Int) ≤ 1000000000 := by omega
  clear H hsm
  go_enter Try.func72, Try.ntmps72
  go_wp2_with fail
  go_loopw [7, 8, 9, 10] (fun v _ _ _ wr => ∃ (k : Nat) (m : List α), v = .int .i64 (k : Int) ∧ Hid (n ≤ m.length ∧ m.Perm l ∧ (∀ k, n ≤ k → m[k]? = l[k]?) ∧ DownAt lt m n k ∧ St m wr) ∧ (k = 0 ∨ k < n)) (fun v _ _ _ _ => n - (intOf v).toNat)
  case atStart => exact ⟨0, l, rfl, Lib.hid ⟨hn, .refl _, fun _ _ => rfl, hu, hS⟩, .inl rfl⟩
  case round =>
    clear hS hu hn
    obtain ⟨k, m, rfl, HR, hkn⟩ := hrel
    obtain ⟨hnm, hp, hsame, hu, hS⟩ := HR.out
    have hkb : (k : Int) ≤ 1000000000 := by omega
    have hw1 : IntKind.i64.wrap (2 * (k : Int)) = 2 * (k : Int) := by rw [IntKind.wrap_i64]; omega
    have hw2 : IntKind.i64.wrap (2 * (k : Int) + 1) = 2 * (k : Int) + 1 := by rw [IntKind.wrap_i64]; omega
    have hw3 : IntKind.i64.wrap (2 * (k : Int) + 1 + 1) = 2 * (k : Int) + 1 + 1 := by rw [IntKind.wrap_i64]; omega
    by_cases h1 : n ≤ 2 * k + 1
    · have hfin : ∃ l', l'.Perm l ∧ HeapN lt l' n ∧ (∀ k, n ≤ k → l'[k]? = l[k]?) ∧ St l' wr := ⟨m, hp, hu.done0 h1, hsame, hS⟩
      have HF := Lib.hid hfin
      have hd : decide ((n : Int) ≤ 2 * (k : Int) + 1) = true := decide_eq_true (by omega)
      have hge : (n : Int) ≤ 2 * (k : Int) + 1 := by omega
      clear hfin hp hu hS HR hsame
      go_wp2_with fail
      go_ret
      exact ⟨⟨_, rfl⟩, HF.out⟩
    · have hd : decide ((n : Int) ≤ 2 * (k : Int) + 1) = false := decide_eq_false (by omega)
      have hge : ¬ (n : Int) ≤ 2 * (k : Int) + 1 := by omega
      have hd0 : decide (2 * (k : Int) + 1 < 0) = false := decide_eq_false (by omega)
      obtain ⟨y, hy⟩ : ∃ y, m[k]? = some y := ⟨_, List.getElem?_eq_getElem (by omega)⟩
      obtain ⟨a, ha⟩ : ∃ a, m[2 * k + 1]? = some a := ⟨_, List.getElem?_eq_getElem (by omega)⟩
      -- from a child c that is the least one on
      have tail : ∀ (c : Nat) (x : α) (W : World), c < n → (c = 2 * k + 1 ∨ c = 2 * k + 2) → m[c]? = some x → Least lt m n k c → St m W →
          (∃ r, (method 228 T rv "Less").run Try.prog W = .ok (gl, r) W ∧ Calls Try.prog gl #[r, .int .i64 (c : Int), .int .i64 (k : Int)] W fun e w' => e = .returned (.bool (lt x y)) ∧ St m w') ∧
          (lt x y = false → ∀ W', St m W' → ∃ l', l'.Perm l ∧ HeapN lt l' n ∧ (∀ k, n ≤ k → l'[k]? = l[k]?) ∧ St l' W') ∧
          (lt x y = true → ∀ W', St m W' → ∃ r, (method 228 T rv "Swap").run Try.prog W' = .ok (gs, r) W' ∧ Calls Try.prog gs #[r, .int .i64 (k : Int), .int .i64 (c : Int)] W' fun e w' => e = .returned (.tuple #[]) ∧ Hid (n ≤ (swapL m k c).length ∧ (swapL m k c).Perm l ∧ (∀ q, n ≤ q → (swapL m k c)[q]? = l[q]?) ∧ DownAt lt (swapL m k c) n c ∧ St (swapL m k c) w')) := by
        intro c x W hcn hc hx hl hSW
        refine ⟨HH.out.less hSW hx hy, fun hlt W' hS' => ⟨m, hp, hu.done HH.out.weak hl hx hy hlt, hsame, hS'⟩, fun hlt W' hS' => ?_⟩
        obtain ⟨r, h2, h3⟩ := HH.out.swap hS' (i := k) (j := c) (by omega) (by omega)
        refine ⟨r, h2, h3.mono fun e w' ⟨he, hs⟩ => ⟨he, Lib.hid ⟨by rw [swapL_length]; exact hnm, (swapL_perm (by omega) (by omega)).trans hp, fun q hq => ?_, hu.step HH.out.weak hc hcn hnm hl hx hy hlt, hs⟩⟩⟩
        rw [swapL_get (by omega) (by omega), if_neg (by omega), if_neg (by omega)]
        exact hsame q hq
      have TL := Lib.hid tail
      clear tail
      by_cases h2 : 2 * k + 2 < n
      · have hd2 : decide (2 * (k : Int) + 1 + 1 < (n : Int)) = true := decide_eq_true (by omega)
        obtain ⟨b, hb⟩ : ∃ b, m[2 * k + 2]? = some b := ⟨_, List.getElem?_eq_getElem (by omega)⟩
        obtain ⟨r, hm, hc⟩ := HH.out.less hS hb ha
        rw [show ((2 * k + 2 : Nat) : Int) = 2 * (k : Int) + 1 + 1 by omega, show ((2 * k + 1 : Nat) : Int) = 2 * (k : Int) + 1 by omega] at hc
        have hlt2 : 2 * (k : Int) + 1 + 1 < (n : Int) := by omega
        have HX := Lib.hid (And.intro ha (And.intro hb hy))
        clear hp hu hS hsame ha hb hy
        go_wp2_with fail
        refine hc.mono ?_
        rintro e w1 ⟨rfl, hS1⟩
        clear hm hc
        obtain ⟨ha, hb, hy⟩ := HX.out
        cases hlt : lt b a with
        | true =>
          obtain ⟨⟨r, hm, hc⟩, hno, hyes⟩ := TL.out (2 * k + 2) b w1 h2 (.inr rfl) hb (Least.right HH.out.weak hb ha hlt) hS1
          rw [show ((2 * k + 2 : Nat) : Int) = 2 * (k : Int) + 1 + 1 by omega] at hc hyes
          have HN := Lib.hid hno
          have HY := Lib.hid hyes
          clear hno hyes ha hb hy hS1
          go_wp2_with fail
          refine hc.mono ?_
          rintro e w2 ⟨rfl, hS2⟩
          clear hm hc
          cases hl2 : lt b y with
          | false =>
            have HF := Lib.hid (HN.out hl2 w2 hS2)
            clear hS2
            go_wp2_with fail
            go_ret
            exact ⟨⟨_, rfl⟩, HF.out⟩
          | true =>
            obtain ⟨r, hm, hc⟩ := HY.out hl2 w2 hS2
            clear hS2
            go_wp2_with fail
            refine hc.mono ?_
            rintro e w3 ⟨rfl, HS3⟩
            clear hm hc
            go_wp2_with fail
            go_roundw
            case rel => exact ⟨2 * k + 2, swapL m k (2 * k + 2), by go_num, HS3, .inr h2⟩
            case measure => simp [intOf]; omega
        | false =>
          obtain ⟨⟨r, hm, hc⟩, hno, hyes⟩ := TL.out (2 * k + 1) a w1 (by omega) (.inl rfl) ha (Least.left HH.out.weak hb ha hlt) hS1
          rw [show ((2 * k + 1 : Nat) : Int) = 2 * (k : Int) + 1 by omega] at hc hyes
          have HN := Lib.hid hno
          have HY := Lib.hid hyes
          clear hno hyes ha hb hy hS1
          go_wp2_with fail
          refine hc.mono ?_
          rintro e w2 ⟨rfl, hS2⟩
          clear hm hc
          cases hl2 : lt a y with
          | false =>
            have HF := Lib.hid (HN.out hl2 w2 hS2)
            clear hS2
            go_wp2_with fail
            go_ret
            exact ⟨⟨_, rfl⟩, HF.out⟩
          | true =>
            obtain ⟨r, hm, hc⟩ := HY.out hl2 w2 hS2
            clear hS2
            go_wp2_with fail
            refine hc.mono ?_
            rintro e w3 ⟨rfl, HS3⟩
            clear hm hc
            go_wp2_with fail
            go_roundw
            case rel => exact ⟨2 * k + 1, swapL m k (2 * k + 1), by go_num, HS3, .inr (by omega)⟩
            case measure => simp [intOf]; omega
      · have hd2 : decide (2 * (k : Int) + 1 + 1 < (n : Int)) = false := decide_eq_false (by omega)
        have hlt2 : ¬ 2 * (k : Int) + 1 + 1 < (n : Int) := by omega
        obtain ⟨⟨r, hm, hc⟩, hno, hyes⟩ := TL.out (2 * k + 1) a wr (by omega) (.inl rfl) ha (Least.only HH.out.weak (by omega)) hS
        rw [show ((2 * k + 1 : Nat) : Int) = 2 * (k : Int) + 1 by omega] at hc hyes
        have HN := Lib.hid hno
        have HY := Lib.hid hyes
        clear hno hyes ha hy hS hp hu hsame
        go_wp2_with fail
        refine hc.mono ?_
        rintro e w2 ⟨rfl, hS2⟩
        clear hm hc
        cases hl2 : lt a y with
        | false =>
          have HF := Lib.hid (HN.out hl2 w2 hS2)
          clear hS2
          go_wp2_with fail
          go_ret
          exact ⟨⟨_, rfl⟩, HF.out⟩
        | true =>
          obtain ⟨r, hm, hc⟩ := HY.out hl2 w2 hS2
          clear hS2
          go_wp2_with fail
          refine hc.mono ?_
          rintro e w3 ⟨rfl, HS3⟩
          clear hm hc
          go_wp2_with fail
          go_roundw
          case rel => exact ⟨2 * k + 1, swapL m k (2 * k + 1), by go_num, HS3, .inr (by omega)⟩
          case measure => simp [intOf]; omega

set_option maxRecDepth 100000 in
theorem Push_any (H : HeapI T rv gn gl gs gp gq lt box St) {l : List α} {w : World} (hS : St l w) (hl : l.length < 1000) (hh : HeapN lt l l.length) (x : α) :
    Calls Try.prog 70 #[.iface T rv, box x] w fun e w' => (∃ v, e = .returned v) ∧ ∃ l', l'.Perm (l ++ [x]) ∧ HeapN lt l' l'.length ∧ St l' w' := by
  have eP := H.eP
  have eN := H.eN
  obtain ⟨r, hm, hc⟩ := H.push x hS hl
  have HN := Lib.hid (fun W (h : St (l ++ [x]) W) => H.len h)
  have HU := Lib.hid (fun W (h : St (l ++ [x]) W) => up_any H h (j := l.length) (by rw [List.length_append]; exact hh.more x) (by simp))
  obtain ⟨n, hn⟩ : ∃ n, l.length = n := ⟨_, rfl⟩
  have HE := Lib.hid (And.intro hn (show (l ++ [x]).length = n + 1 by simp [hn]))
  rw [hn] at hl
  clear H hS hh hn
  go_enter Try.func70, Try.ntmps70
  go_wp2_with fail
  refine hc.mono ?_
  rintro e w1 ⟨rfl, hS1⟩
  clear hm hc
  obtain ⟨r2, hm, hc⟩ := HN.out w1 hS1
  rw [HE.out.2] at hc
  clear hS1
  go_wp2_with fail
  refine hc.mono ?_
  rintro e w2 ⟨rfl, hS2⟩
  have hu := HU.out w2 hS2
  rw [HE.out.1] at hu
  have hw : IntKind.i64.wrap (((n + 1 : Nat) : Int) - 1) = (n : Int) := by rw [IntKind.wrap_i64]; omega
  have hw2 : ((n + 1 : Nat) : Int) - 1 = (n : Int) := by omega
  clear hm hc hS2
  go_wp2_with fail
  refine hu.mono ?_
  rintro e w3 ⟨rfl, hfin⟩
  have HF := Lib.hid hfin
  clear hfin hu
  go_wp2_with fail
  go_end0
  exact ⟨⟨_, rfl⟩, HF.out⟩

set_option maxRecDepth 100000 in
theorem Pop_any (H : HeapI T rv gn gl gs gp gq lt box St) {l : List α} {w : World} (hS : St l w) (h0 : 0 < l.length) (hh : HeapN lt l l.length) :
    Calls Try.prog 58 #[.iface T rv] w fun e w' => ∃ x l', e = .returned (box x) ∧ (∀ z ∈ l, lt z x = false) ∧ l.Perm (x :: l') ∧ HeapN lt l' l'.length ∧ St l' w' := by
  have eN := H.eN
  have eS := H.eS
  have eQ := H.eQ
  obtain ⟨n, hn⟩ : ∃ n, l.length = n + 1 := ⟨l.length - 1, by omega⟩
  obtain ⟨r, hm, hc⟩ := H.len hS
  rw [hn] at hh hc
  obtain ⟨x, hx⟩ : ∃ x, l[0]? = some x := ⟨_, List.getElem?_eq_getElem h0⟩
  have hroot : ∀ z ∈ l, lt z x = false := fun z hz => by
    obtain ⟨k, hk, rfl⟩ := List.mem_iff_getElem.1 hz
    exact hh.root H.weak (by omega) hx k _ (by omega) (List.getElem?_eq_getElem hk)
  have HS := Lib.hid (fun W (h : St l W) => H.swap h (i := 0) (j := n) (by omega) (by omega))
  have HD := Lib.hid (fun W (h : St (swapL l 0 n) W) => down_any H h (hh.less hn) (by rw [swapL_length]; omega))
  have hlast : (swapL l 0 n)[n]? = some x := by
    rw [swapL_get (by omega) (by omega)]
    by_cases e : n = 0
    · subst e; rw [if_pos rfl]; exact hx
    · rw [if_neg e, if_pos rfl]; exact hx
  have HQ := Lib.hid (fun (m : List α) W (h : St (m ++ [x]) W) => H.pop h)
  have hpm := swapL_perm (l := l) (i := 0) (j := n) (by omega) (by omega)
  have HE := Lib.hid (And.intro hroot (And.intro hlast (And.intro hn hpm)))
  have hnb := H.small hS
  rw [hn] at hnb
  clear H hS hh hn hx hroot hlast h0 hpm
  go_enter Try.func58, Try.ntmps58
  go_wp2_with fail
  refine hc.mono ?_
  rintro e w1 ⟨rfl, hS1⟩
  have hw : IntKind.i64.wrap (((n + 1 : Nat) : Int) - 1) = (n : Int) := by rw [IntKind.wrap_i64]; omega
  have hw2 : ((n + 1 : Nat) : Int) - 1 = (n : Int) := by omega
  clear hm hc
  obtain ⟨r, hm, hc⟩ := HS.out w1 hS1
  clear hS1
  go_wp2_with fail
  refine hc.mono ?_
  rintro e w2 ⟨rfl, hS2⟩
  have hd := HD.out w2 hS2
  clear hm hc hS2
  go_wp2_with fail
  refine hd.mono ?_
  rintro e w3 ⟨⟨v, rfl⟩, l', hp, hh', hsame, hS3⟩
  have hlen : l'.length = n + 1 := by rw [hp.length_eq, swapL_length, HE.out.2.2.1]
  have hl' := take_last hlen (y := x) (by rw [hsame n (Nat.le_refl _)]; exact HE.out.2.1)
  rw [hl'] at hS3
  obtain ⟨r, hm, hc⟩ := HQ.out _ w3 hS3
  have hperm : l.Perm (x :: l'.take n) := by
    have h1 : l.Perm (l'.take n ++ [x]) := (HE.out.2.2.2.symm.trans hp.symm).trans (by rw [← hl'])
    exact h1.trans (List.perm_append_comm)
  have hht : HeapN lt (l'.take n) (l'.take n).length := by
    rw [List.length_take, hlen, Nat.min_eq_left (by omega)]
    exact hh'.take
  have HF := Lib.hid (And.intro hperm hht)
  clear hd hS3 hperm hht hl' hlen hsame hh' hp
  go_wp2_with fail
  refine hc.mono ?_
  rintro e w4 ⟨rfl, hS4⟩
  clear hm hc
  have HS4 := Lib.hid hS4
  clear hS4
  go_wp2_with fail
  go_ret
  exact ⟨x, _, rfl, HE.out.1, HF.out.1, HF.out.2, HS4.out⟩
end
end Go.Proofs.Ytmbnmhcfafgnaaa
