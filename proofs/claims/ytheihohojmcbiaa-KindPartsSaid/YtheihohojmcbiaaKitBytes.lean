/-
  Package praxinoscopekit: bytes side by side, bytes lent, bytes written over.
-/
import Derived.Test.YtheihohojmcbiaaBitsSpec
import Derived.Test.YtheihohojmcbiaaInv
import Derived.Test.YtheihohojmcbiaaRows
import Derived.RegionTactic
import Derived.ChangeAlike
import Derived.BigRegion
import Derived.Laws.IdiomStrings
namespace Go.Mine
open Go.RowKit
/-- A string of bytes. -/
def str (bs : List UInt8) : ByteArray := ⟨bs.toArray⟩
theorem str_inj {a b : List UInt8} : str a = str b ↔ a = b := by
  constructor
  · intro h
    have := congrArg (fun x : ByteArray => x.data.toList) h
    simpa [str] using this
  · rintro rfl; rfl
theorem str_beq (a b : List UInt8) : ((str a).toList == (str b).toList) = decide (a = b) := by
  rw [ByteArray.toList_eq, ByteArray.toList_eq]
  rw [Bool.eq_iff_iff]
  simp [str]
theorem str_toList (a : List UInt8) : (str a).data.toList = a := by simp [str]
theorem str_size (a : List UInt8) : (str a).size = a.length := by simp [str, ByteArray.size]

/-- 'string(b)'. -/
theorem run_str {P : Program} {w : World} {v : Value} {bs : List UInt8} (hr : Rd w 1 v bs.length (byteCells bs)) (src dst e : TypeId) (hs : P.underlying src = some (.slice e)) (he : P.underlying e = some (.int .u8)) (hd : P.underlying dst = some .string) :
    (convert src dst v).run P w = .ok (.string (str bs)) w := by
  obtain ⟨-, A, c, rfl, hc, hA⟩ := hr
  rcases Nat.eq_zero_or_pos bs.length with h0 | h0
  · obtain rfl : bs = [] := List.eq_nil_of_length_eq_zero h0
    show (convert src dst (.slice A 0 c)).run P w = _
    rw [run_convert_bytes_string w src dst e A 0 c hs he hd]
    cases A with
    | none => simp [Conv.bytesToString, Sem.run_pure]; rfl
    | some a => rw [run_bytesToString w a 0 c [] (by simp [loadCells, loadCellsFrom])]; rfl
  · obtain ⟨g, off, rfl, hg⟩ := hA h0
    exact run_convert_bytes_back w src dst e ⟨g, off, none⟩ c bs hs he hd fun j hj => by
      rw [Addr.add_lit]
      exact hg j _ (byteCells_get hj)

theorem Sl.lit {base size : Nat} (w : World) (cs : List Value) (t : TypeId) (m : Nat) (hl : cs.length = m * size) (hm : m ≤ maxLen) (hb : base ≤ w.heap.size) : Sl (w.alloc (.cells cs.toArray t)) base t size (.slice (some ⟨w.heap.size, 0, none⟩) m m) m cs :=
  ⟨hl, .inr ⟨w.heap.size, 0, m, cs.toArray, rfl, hb, World.alloc_heap_new w _, Nat.le_refl _, hm, by simp [hl], fun j _ => by simp⟩⟩
theorem byteCells_one (bs : List UInt8) : ∀ u ∈ byteCells bs, u.oneCell' = true := by
  intro u hu
  obtain ⟨b, _, rfl⟩ := List.mem_map.1 hu
  rfl
/-- A beginning. -/
theorem Rd.take {w : World} {A : Option Addr} {n m c : Nat} {bs : List UInt8} (h : Rd w 1 (.slice A n c) n (byteCells bs)) (hm : m ≤ n) (hc : m ≤ c) : Rd w 1 (.slice A m c) m (byteCells (bs.take m)) := by
  obtain ⟨h1, A', c', h2, h3, h4⟩ := h
  injection h2 with h2 _ hcc
  subst h2 hcc
  have hl : bs.length = n := by simpa [byteCells] using h1
  refine ⟨by simp [byteCells]; omega, A, c, rfl, hc, fun hp => ?_⟩
  obtain ⟨g, off, rfl, hg⟩ := h4 (by omega)
  refine ⟨g, off, rfl, fun j u hu => hg j u ?_⟩
  have hj := (List.getElem?_eq_some_iff.1 hu).1
  simp [byteCells] at hj
  rw [← hu]
  simp [byteCells, List.getElem?_take]
  omega

/-- Bytes that were lent: four more lie behind. -/
def Lent (w : World) (base : Nat) (e : TypeId) (v : Value) (bs : List UInt8) : Prop :=
  ∃ g off cap, v = .slice (some ⟨g, off, none⟩) bs.length cap ∧ Sl w base e 1 (.slice (some ⟨g, off, none⟩) (bs.length + 4) cap) (bs.length + 4) (byteCells (bs ++ [201, 202, 203, 204]))
theorem Lent.rd {w : World} {base : Nat} {e : TypeId} {v : Value} {bs : List UInt8} (h : Lent w base e v bs) : Rd w 1 v bs.length (byteCells bs) := by
  obtain ⟨g, off, cap, rfl, hs⟩ := h
  have hr := Rd.of_sl hs
  obtain ⟨h1, A, c, h2, h3, h4⟩ := hr
  obtain ⟨g', off', rfl, hg⟩ := h4 (by omega)
  injection h2 with h2 _ hcc
  injection h2 with h2
  injection h2 with hgg hoo
  subst hgg hoo hcc
  refine ⟨by simp [byteCells], _, cap, rfl, by omega, fun _ => ⟨g, off, rfl, fun j u hu => hg j u ?_⟩⟩
  have hj : j < bs.length := by
    have := (List.getElem?_eq_some_iff.1 hu).1
    simpa [byteCells] using this
  rw [byteCells_append, List.getElem?_append_left (by simpa [byteCells] using hj)]
  exact hu
theorem Lent.only {S : List Nat} {w w' : World} {base : Nat} {e : TypeId} {v : Value} {bs : List UInt8} (h : Lent w base e v bs) (ht : OnlyIn S w w') (hS : ∀ g, v.ownBlock = some g → g ∉ S) : Lent w' base e v bs := by
  obtain ⟨g, off, cap, rfl, hs⟩ := h
  exact ⟨g, off, cap, rfl, hs.only ht (fun k hk => hS k (by simpa [Value.ownBlock] using hk))⟩
theorem Lent.own {w : World} {base : Nat} {e : TypeId} {v : Value} {bs : List UInt8} (h : Lent w base e v bs) : ∃ g, v.ownBlock = some g ∧ base ≤ g ∧ g < w.heap.size := by
  obtain ⟨g, off, cap, rfl, hs⟩ := h
  have := hs.own_lt g rfl
  exact ⟨g, rfl, this⟩
theorem Lent.ne_blk {w : World} {base b : Nat} {e t : TypeId} {v : Value} {bs : List UInt8} {cs : List Value} (h : Lent w base e v bs) (hb : Blk w b t cs) (hne : e ≠ t) : v.ownBlock ≠ some b := by
  obtain ⟨g, off, cap, rfl, hs⟩ := h
  exact hs.ne_blk hb hne
end Go.Mine
namespace Go.Proofs.Ytheihohojmcbiaa
open Go.RowKit Go.Mine

set_option maxRecDepth 100000 in
theorem Try.mixed : Try.prog.follows .mixedOrders = true := by kernel_rfl
set_option maxRecDepth 100000 in
theorem Try.infoB : (Try.prog.info? 5).map (fun i => (i.zero, i.size, i.bytes)) = some (some (.int .u8 0), 1, 1) := by kernel_rfl

set_option maxRecDepth 100000 in
theorem LentBytes_any (w : World) (v : Value) (bs : List UInt8) (h : Rd w 1 v bs.length (byteCells bs)) (hl : bs.length ≤ 1000000000) :
    Calls Try.prog 14 #[v] w fun e w' => ∃ u, e = .returned u ∧ Lent w' w.heap.size 5 u bs ∧ OnlyIn [] w w' := by
  obtain ⟨i0, hi0, hz0, hz1, hz2⟩ := info_parts Try.infoB
  have h' := h
  obtain ⟨-, A, c, rfl, hc, hA⟩ := h'
  clear hA
  have tok : True := trivial
  go_enter Try.func14, Try.ntmps14
  go_wp2_with (first | (at_builtin; have _t := tok; refine wpList_append_sl rfl _ _ 22 rfl w.heap.size 5 i0 _ 1 1 Try.underlying22 hi0 hz0 hz1 hz2 rfl (by decide) _ 0 [] rfl (Sl.lit w [] 5 0 rfl (by decide) (Nat.le_refl _)) _ bs.length (byteCells bs) rfl (h.cells fun p u hp => ((OnlyIn.refl [] w).alloc _).cell hp (by simp)) (byteCells_one bs) (by simp only [maxLen]; omega) (by omega) (by simp) ?_; intro v1 w1 hs1 hg1 hat1; clear tok) | (at_builtin; refine wpList_append_sl rfl _ _ 22 rfl w.heap.size 5 i0 _ 1 1 Try.underlying22 hi0 hz0 hz1 hz2 rfl (by decide) v1 (0 + bs.length) ([] ++ byteCells bs) rfl (hs1.alloc _) _ 4 (byteCells [201, 202, 203, 204]) rfl (Rd.lit w1 (byteCells [201, 202, 203, 204]) 5 4 rfl) (byteCells_one _) (by simp only [maxLen]; omega) (by omega) (by have := hg1.size; simp at this ⊢; omega) ?_; intro v2 w2 hs2 hg2 hat2; rw [Nat.zero_add, List.nil_append, ← byteCells_append] at hs2; obtain ⟨g2, off2, cap2, rfl, hb2, hlt2, hcap2⟩ := hs2.form (by omega)))
  go_ret
  refine ⟨_, rfl, ⟨g2, off2, cap2, rfl, hs2⟩, ?_⟩
  exact (((((OnlyIn.refl [] w).alloc _).grown hg1 (fun k hk => .inr (by cases hk; exact Nat.le_refl _))).alloc _).grown hg2 (fun k hk => .inr (hs1.own_lt k hk).1))

end Go.Proofs.Ytheihohojmcbiaa
