/-
  Package praxinoscopekit: bytes side by side, bytes lent, bytes written over.
-/
import Derived.Test.YtmbnmhcfafgnaaaBitsSpec
import Derived.Test.YtmbnmhcfafgnaaaInv
import Derived.Test.YtmbnmhcfafgnaaaRows
import Derived.RegionTactic
import Derived.ChangeAlike
import Derived.BigRegion
import Derived.Laws.IdiomStrings
namespace Go.Mine
open Go.RowKit
/-- A string of bytes. -/
def str (bs : List UInt8) : ByteArray := ⟨bs.toArray⟩
theorem str_inj {a b : List UInt8} : str a = str b ↔ a = b := by
  constructor
  · intro h
    have := congrArg (fun x : ByteArray => x.data.toList) h
    simpa [str] using this
  · rintro rfl; rfl
theorem str_beq (a b : List UInt8) : ((str a).toList == (str b).toList) = decide (a = b) := by
  rw [ByteArray.toList_eq, ByteArray.toList_eq]
  rw [Bool.eq_iff_iff]
  simp [str]
theorem str_toList (a : List UInt8) : (str a).data.toList = a := by simp [str]
theorem str_size (a : List UInt8) : (str a).size = a.length := by simp [str, ByteArray.size]

/-- 'string(b)'. -/
theorem run_str {P : Program} {w : World} {v : Value} {bs : List UInt8} (hr : Rd w 1 v bs.length (byteCells bs)) (src dst e : TypeId) (hs : P.underlying src = some (.slice e)) (he : P.underlying e = some (.int .u8)) (hd : P.underlying dst = some .string) :
    (convert src dst v).run P w = .ok (.string (str bs)) w := by
  obtain ⟨-, A, c, rfl, hc, hA⟩ := hr
  rcases Nat.eq_zero_or_pos bs.length with h0 | h0
  · obtain rfl : bs = [] := List.eq_nil_of_length_eq_zero h0
    show (convert src dst (.slice A 0 c)).run P w = _
    rw [run_convert_bytes_string w src dst e A 0 c hs he hd]
    cases A with
    | none => simp [Conv.bytesToString, Sem.run_pure]; rfl
    | some a => rw [run_bytesToString w a 0 c [] (by simp [loadCells, loadCellsFrom])]; rfl
  · obtain ⟨g, off, rfl, hg⟩ := hA h0
    exact run_convert_bytes_back w src dst e ⟨g, off, none⟩ c bs hs he hd fun j hj => by
      rw [Addr.add_lit]
      exact hg j _ (byteCells_get hj)

theorem Sl.lit {base size : Nat} (w : World) (cs : List Value) (t : TypeId) (m : Nat) (hl : cs.length = m * size) (hm : m ≤ maxLen) (hb : base ≤ w.heap.size) : Sl (w.alloc (.cells cs.toArray t)) base t size (.slice (some ⟨w.heap.size, 0, none⟩) m m) m cs :=
  ⟨hl, .inr ⟨w.heap.size, 0, m, cs.toArray, rfl, hb, World.alloc_heap_new w _, Nat.le_refl _, hm, by simp [hl], fun j _ => by simp⟩⟩
theorem byteCells_one (bs : List UInt8) : ∀ u ∈ byteCells bs, u.oneCell' = true := by
  intro u hu
  obtain ⟨b, _, rfl⟩ := List.mem_map.1 hu
  rfl
/-- A beginning. -/
theorem Rd.take {w : World} {A : Option Addr} {n m c : Nat} {bs : List UInt8} (h : Rd w 1 (.slice A n c) n (byteCells bs)) (hm : m ≤ n) (hc : m ≤ c) : Rd w 1 (.slice A m c) m (byteCells (bs.take m)) := by
  obtain ⟨h1, A', c', h2, h3, h4⟩ := h
  injection h2 with h2 _ hcc
  subst h2 hcc
  have hl : bs.length = n := by simpa [byteCells] using h1
  refine ⟨by simp [byteCells]; omega, A, c, rfl, hc, fun hp => ?_⟩
  obtain ⟨g, off, rfl, hg⟩ := h4 (by omega)
  refine ⟨g, off, rfl, fun j u hu => hg j u ?_⟩
  have hj := (List.getElem?_eq_some_iff.1 hu).1
  simp [byteCells] at hj
  rw [← hu]
  simp [byteCells, List.getElem?_take]
  omega

/-- Bytes that were lent: four more lie behind. -/
def Lent (w : World) (base : Nat) (e : TypeId) (v : Value) (bs : List UInt8) : Prop :=
  ∃ g off cap, v = .slice (some ⟨g, off, none⟩) bs.length cap ∧ Sl w base e 1 (.slice (some ⟨g, off, none⟩) (bs.length + 4) cap) (bs.length + 4) (byteCells (bs ++ [201, 202, 203, 204]))
theorem Lent.rd {w : World} {base : Nat} {e : TypeId} {v : Value} {bs : List UInt8} (h : Lent w base e v bs) : Rd w 1 v bs.length (byteCells bs) := by
  obtain ⟨g, off, cap, rfl, hs⟩ := h
  have hr := Rd.of_sl hs
  obtain ⟨h1, A, c, h2, h3, h4⟩ := hr
  obtain ⟨g', off', rfl, hg⟩ := h4 (by omega)
  injection h2 with h2 _ hcc
  injection h2 with h2
  injection h2 with hgg hoo
  subst hgg hoo hcc
  refine ⟨by simp [byteCells], _, cap, rfl, by omega, fun _ => ⟨g, off, rfl, fun j u hu => hg j u ?_⟩⟩
  have hj : j < bs.length := by
    have := (List.getElem?_eq_some_iff.1 hu).1
    simpa [byteCells] using this
  rw [byteCells_append, List.getElem?_append_left (by simpa [byteCells] using hj)]
  exact hu
theorem Lent.only {S : List Nat} {w w' : World} {base : Nat} {e : TypeId} {v : Value} {bs : List UInt8} (h : Lent w base e v bs) (ht : OnlyIn S w w') (hS : ∀ g, v.ownBlock = some g → g ∉ S) : Lent w' base e v bs := by
  obtain ⟨g, off, cap, rfl, hs⟩ := h
  exact ⟨g, off, cap, rfl, hs.only ht (fun k hk => hS k (by simpa [Value.ownBlock] using hk))⟩
theorem Lent.own {w : World} {base : Nat} {e : TypeId} {v : Value} {bs : List UInt8} (h : Lent w base e v bs) : ∃ g, v.ownBlock = some g ∧ base ≤ g ∧ g < w.heap.size := by
  obtain ⟨g, off, cap, rfl, hs⟩ := h
  have := hs.own_lt g rfl
  exact ⟨g, rfl, this⟩
theorem Lent.ne_blk {w : World} {base b : Nat} {e t : TypeId} {v : Value} {bs : List UInt8} {cs : List Value} (h : Lent w base e v bs) (hb : Blk w b t cs) (hne : e ≠ t) : v.ownBlock ≠ some b := by
  obtain ⟨g, off, cap, rfl, hs⟩ := h
  exact hs.ne_blk hb hne
end Go.Mine
namespace Go.Proofs.Ytmbnmhcfafgnaaa
open Go.RowKit Go.Mine

set_option maxRecDepth 100000 in
theorem Try.mixed : Try.prog.follows .mixedOrders = true := by kernel_rfl
set_option maxRecDepth 100000 in
theorem Try.infoB : (Try.prog.info? 5).map (fun i => (i.zero, i.size, i.bytes)) = some (some (.int .u8 0), 1, 1) := by kernel_rfl

set_option maxRecDepth 100000 in
theorem SameBytes_any (w : World) (v u : Value) (a b : List UInt8) (h1 : Rd w 1 v a.length (byteCells a)) (h2 : Rd w 1 u b.length (byteCells b)) :
    Calls Try.prog 42 #[v, u] w fun e w' => e = .returned (.bool (decide (a = b))) ∧ w = w' := by
  have e1 := run_str (P := Try.prog) h1 54 9 5 Try.underlying54 Try.underlying5 Try.underlying9
  have e2 := run_str (P := Try.prog) h2 54 9 5 Try.underlying54 Try.underlying5 Try.underlying9
  have hb := str_beq a b
  clear h1 h2
  go_enter Try.func42, Try.ntmps42
  go_wp2
  go_ret
  refine ⟨?_, rfl⟩
  congr

set_option maxRecDepth 100000 in
/-- Writing over: what is there then is told nowhere. -/
theorem OverBytes_any (w : World) (v : Value) (n : Nat) (xs : List UInt8) (base : Nat) (hs : Sl w base 5 1 v n (byteCells xs)) (hn : n ≤ 1000000000) :
    Calls Try.prog 66 #[v] w fun e w' => e = .returned (.tuple #[]) ∧ OnlyIn v.ownBlock.toList w w' := by
  obtain ⟨A, c, rfl, hc⟩ := hs.val
  go_enter Try.func66, Try.ntmps66
  go_wp2_with fail
  go_loopw [2] (fun i wr => ∃ (k : Nat) (ys : List Value), k ≤ n ∧ i = .int .i64 (k : Int) ∧ Sl wr base 5 1 (.slice A n c) n ys ∧ (∀ j, j < n → ∃ z : Int, ys[j]? = some (.int .u8 z)) ∧ OnlyIn (Value.slice A n c).ownBlock.toList w wr) (fun i _ => n - (intOf i).toNat)
  case atStart => exact ⟨0, byteCells xs, by omega, rfl, hs, (fun j hj => by
    have : j < xs.length := by have := hs.1; simp [byteCells] at this; omega
    exact ⟨_, byteCells_get this⟩), OnlyIn.refl _ _⟩
  case round =>
    obtain ⟨k, ys, hk, rfl, hsr, hys, hto⟩ := hrel
    by_cases hlt : k < n
    · obtain ⟨g, off, cap, hv, hg1, hg2, hg3⟩ := hsr.form (by omega)
      injection hv with hA _ hcc
      subst hA hcc
      have hyl : ys.length = n := by simpa using hsr.1
      obtain ⟨z, hz⟩ := hys k hlt
      have q0 : wr.cell? ⟨g, off + k, none⟩ = some (.int .u8 z) := hsr.cell_at rfl hz
      have HY := Lib.hid hys
      clear hys hz
      have f0 : wr.frozen? ⟨g, off + k, none⟩ = false := hsr.free_at rfl _
      go_wp2_with fail
      go_roundw
      case rel =>
        refine ⟨k + 1, _, by omega, by go_num, hsr.stored rfl k _, fun j hj => ?_, hto.setCell (p := ⟨g, off + k, none⟩) (.inl (by simp [Value.ownBlock])) _⟩
        by_cases hjk : k = j
        · subst hjk; exact ⟨_, List.getElem?_set_self (by omega)⟩
        · rw [List.getElem?_set_ne hjk]; exact HY.out j hj
      case measure => simp [intOf]; omega
    · go_wp2_with fail
      go_end0
      exact ⟨rfl, hto⟩

end Go.Proofs.Ytmbnmhcfafgnaaa
