/-
  Two lists that grow side by side, in two cells, within a range over a function. Nothing here names a program.
-/
import Derived.Test.YtheihohojmcbiaaTake
import Derived.Test.YtheihohojmcbiaaPrefixSpec
namespace Go.Mine
open Go.RowKit

/-- Within a round: the loop's record, the two cells, what is in the round's own block, and the two lists. -/
structure KAt (TS TI STR INT : TypeId) (w w1 W : World) (o : Obj) (H : Nat) (X : Nat × TypeId × List Value) (v u sv su : Value) (n m : Nat) (xs ys : List Value) : Prop where
  inl : InLoop w1 W o
  on : OnlyIn [] w W
  bs : Blk W H TS [v]
  bi : Blk W (H + 1) TI [u]
  bx : Blk W X.1 X.2.1 X.2.2
  s1 : Sl W w.heap.size STR 1 sv n xs
  s2 : Sl W w.heap.size INT 1 su m ys
  ne : STR ≠ TS ∧ STR ≠ TI ∧ INT ≠ TS ∧ INT ≠ TI ∧ STR ≠ INT ∧ STR ≠ X.2.1 ∧ INT ≠ X.2.1
section
variable {TS TI STR INT : TypeId} {w w1 W W' : World} {r : Loop} {H : Nat} {X : Nat × TypeId × List Value} {v u sv su sv' su' : Value} {n m n' m' : Nat} {xs ys xs' ys' : List Value}
theorem KAt.alloc (h : KAt TS TI STR INT w w1 W (.loop r) H X v u sv su n m xs ys) (o : Obj) : KAt TS TI STR INT w w1 (W.alloc o) (.loop r) H X v u sv su n m xs ys :=
  ⟨h.inl.alloc o, h.on.alloc o, h.bs.alloc o, h.bi.alloc o, h.bx.alloc o, h.s1.alloc o, h.s2.alloc o, h.ne⟩
theorem Sl.ne_own {b c e e' : Nat} {base base' size size' : Nat} {x y : Value} {a d : List Value} (h : Sl W base e size x b a) (h' : Sl W base' e' size' y c d) (hne : e ≠ e') : ∀ g, x.ownBlock = some g → some g ≠ y.ownBlock := by
  intro g hg heq
  obtain ⟨c1, k1⟩ := h.type_ g hg
  obtain ⟨c2, k2⟩ := h'.type_ g heq.symm
  rw [k1] at k2
  injection k2 with k2
  injection k2 with _ hh
  exact hne hh
theorem KAt.app1 (h : KAt TS TI STR INT w w1 W (.loop r) H X v u sv su n m xs ys) (hs : Sl W' w.heap.size STR 1 sv' n' xs') (hg : W.grownBy W' sv.ownBlock) : KAt TS TI STR INT w w1 W' (.loop r) H X v u sv' su n' m xs' ys := by
  obtain ⟨n1, n2, n3, n4, n5, n6, n7⟩ := h.ne
  refine ⟨h.inl.grown hg (fun g hk => let ⟨c, hc⟩ := h.s1.type_ g hk; ⟨c, _, hc⟩), h.on.grown hg (fun g hk => .inr (h.s1.own_lt g hk).1), h.bs.grown hg (Ne.symm (h.s1.ne_blk h.bs n1)), h.bi.grown hg (Ne.symm (h.s1.ne_blk h.bi n2)), h.bx.grown hg (Ne.symm (h.s1.ne_blk h.bx n6)), hs, h.s2.grown hg (h.s2.ne_own h.s1 (Ne.symm n5)), h.ne⟩
theorem KAt.app2 (h : KAt TS TI STR INT w w1 W (.loop r) H X v u sv su n m xs ys) (hs : Sl W' w.heap.size INT 1 su' m' ys') (hg : W.grownBy W' su.ownBlock) : KAt TS TI STR INT w w1 W' (.loop r) H X v u sv su' n m' xs ys' := by
  obtain ⟨n1, n2, n3, n4, n5, n6, n7⟩ := h.ne
  refine ⟨h.inl.grown hg (fun g hk => let ⟨c, hc⟩ := h.s2.type_ g hk; ⟨c, _, hc⟩), h.on.grown hg (fun g hk => .inr (h.s2.own_lt g hk).1), h.bs.grown hg (Ne.symm (h.s2.ne_blk h.bs n3)), h.bi.grown hg (Ne.symm (h.s2.ne_blk h.bi n4)), h.bx.grown hg (Ne.symm (h.s2.ne_blk h.bx n7)), h.s1.grown hg (h.s1.ne_own h.s2 n5), hs, h.ne⟩
/-- A literal's block while the other list grows. -/
theorem KAt.litA (h : KAt TS TI STR INT w w1 W (.loop r) H X v u sv su n m xs ys) {G : Nat} {cs : List Value} (hb : Blk W G STR cs) (hg : W.grownBy W' su.ownBlock) : Blk W' G STR cs := hb.grown hg (Ne.symm (h.s2.ne_blk hb (Ne.symm h.ne.2.2.2.2.1)))
theorem KAt.litB (h : KAt TS TI STR INT w w1 W (.loop r) H X v u sv su n m xs ys) {G : Nat} {cs : List Value} (hb : Blk W G INT cs) (hg : W.grownBy W' sv.ownBlock) : Blk W' G INT cs := hb.grown hg (Ne.symm (h.s1.ne_blk hb h.ne.2.2.2.2.1))
theorem Rd.one {G : Nat} {t : TypeId} {x : Value} (h : Blk W G t [x]) : Rd W 1 (.slice (some ⟨G, 0, none⟩) 1 1) 1 [x] :=
  ⟨rfl, _, 1, rfl, Nat.le_refl _, fun _ => ⟨G, 0, rfl, fun j z hj => by
    match j, hj with
    | 0, hj => simp at hj; subst hj; exact h.cell (i := 0) rfl⟩⟩
end
end Go.Mine
