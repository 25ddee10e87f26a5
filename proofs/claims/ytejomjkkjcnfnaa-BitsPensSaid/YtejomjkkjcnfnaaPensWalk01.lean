/-
  Law 01: BitsPens: the walk.
-/
import Derived.Test.YtejomjkkjcnfnaaPens01
import Derived.Deep.RegionHeld3
namespace Go.Proofs.Ytejomjkkjcnfnaa
open Go.RowKit Go.Mine

set_option maxRecDepth 100000 in
set_option maxHeartbeats 2000000 in
theorem Pens_walk {w : World} (x : Value × List Act01) (hx : Rd w 4 x.1 x.2.length (x.2.flatMap Act01.cells) ∧ (∀ a ∈ x.2, a.ok) ∧ x.2.length ≤ maxLen) :
    Calls Try.prog 4 #[x.1] w fun e w' => e = .returned (.bool true) ∧ OnlyIn [] w w' := by
  obtain ⟨vl, l⟩ := x
  obtain ⟨hr, hok, hml⟩ := hx
  simp only at hr hok hml ⊢
  by_cases hsm : Small01 l
  · have hlong := Long_no w vl l hr hsm
    obtain ⟨A, c0, rfl⟩ : ∃ A c, vl = .slice A l.length c := by
      obtain ⟨-, A, c, rfl, -⟩ := hr
      exact ⟨A, c, rfl⟩
    have h60 := hsm.1
    have HS := Lib.hid (And.intro hsm.2 (And.intro hok hr))
    clear hsm hok hml hr
    go_enter Try.func4, Try.ntmps4
    go_wp2_with (go_at_call 15; refine hlong.mono ?_; rintro e w1 ⟨rfl, rfl⟩)
    refine (NewPen_any w).mono ?_
    rintro e w2 ⟨rfl, hP, ht⟩
    have hbw : w.heap.size ≤ w.heap.size := Nat.le_refl _
    generalize hbb : w.heap.size = b at hP ⊢
    have hb : w.heap.size ≤ b := by omega
    have hbz : b + 1 ≤ w2.heap.size := hP.blk.lt
    go_wp2_with fail
    generalize hw3 : World.alloc w2 _ = w3
    have hB : Both01 w w3 b w2.heap.size (.slice none 0 0) (.slice none 0 0) [] := by
      subst hw3
      exact ⟨hP.only0 ((OnlyIn.refl _ _).alloc _), ⟨Blk.new w2 _ [.slice none 0 0], Sl.nil _ _ _ _, Bin.nil, by simp⟩, ht.alloc _, hb, ht.size⟩
    generalize w2.heap.size = c at hB ⊢
    clear hw3 hP ht hbb hb hbw hbz hlong
    go_wp2_with (go_at_call 19; refine (Len_any _ hB.pen).mono ?_; rintro e w4 ⟨rfl, rfl⟩)
    go_loopw [5] (pensAt w b c l) (fun i _ => l.length - (intOf i).toNat)
    case atStart => exact ⟨0, _, _, by omega, rfl, hB⟩
    case round =>
      clear hB
      obtain ⟨k, v, u, hk, rfl, hB⟩ := hrel
      by_cases hlt : k < l.length
      · have hrr := HS.out.2.2.cells (w' := wr) fun p u hp => hB.on.cell hp (by simp)
        obtain ⟨g, off, c', hv, q0, q1, q2, q3⟩ := act_cells hrr hlt
        obtain ⟨g', off', c'', hv', z0, z1, z2, z3⟩ := act_cells HS.out.2.2 hlt
        rw [hv] at hv'
        injection hv' with hv' _ hcc'
        injection hv' with hv'
        injection hv' with hgg hoo
        subst hgg hoo
        injection hv with hv _ hcc
        subst hv hcc hcc'
        have hLk : (allBits (l.take k)).length ≤ 100 * k := by
          have := allBits_len (l := l.take k) (fun a ha => HS.out.1 a (List.mem_of_mem_take ha))
          simp at this; omega
        have hsl : (l[k]'hlt).s.length ≤ 100 := HS.out.1 _ (List.getElem_mem hlt)
        have hak := HS.out.2.1 _ (List.getElem_mem hlt)
        obtain ⟨a, hak2⟩ : ∃ a, l[k]'hlt = a := ⟨_, rfl⟩
        rw [hak2] at q0 q1 q2 q3 z0 z1 z2 z3 hsl hak
        have hBd := hB.only0 ((OnlyIn.refl [] wr).drew)
        rcases hac : a.codes with _ | _
        · rw [hac] at q0
          obtain ⟨n, hcode⟩ := Put_alike hBd a hac hak (by omega)
          generalize hL : allBits (l.take k) ++ (actBits a).getD [] = L at hcode
          have HH := Lib.hid (And.intro (And.intro z1 z2) (And.intro hak2 hL))
          clear hac hak hrr hB hBd z0 z1 z2 z3 hak2 hsl hL
          go_wp2_with fail
          go_region_held3 (fun W => W.cell? ⟨g, off + k * 4 + 1, none⟩ = some (.int .i64 a.n) ∧ W.cell? ⟨g, off + k * 4 + 2, none⟩ = some (.int .i64 a.b)) (first | exact ⟨q1, q2⟩ | exact p3 | exact o3) ((first | (go_at_call 17; refine hcode.mono ?_; rintro e w4 ⟨rfl, hto4, href⟩; have p3 := And.intro (hto4.cell HH.out.1.1 (by simp)) (hto4.cell HH.out.1.2 (by simp))) | (go_at_call 23; refine href.mono ?_; rintro e w5 ⟨rfl, v5, u5, hB5⟩; have o3 := And.intro (hB5.on.cell HH.out.1.1 (by simp)) (hB5.on.cell HH.out.1.2 (by simp)))))
          clear q0 q1 q2 q3 hcode
          go_wp2_with (go_at_call 20; refine (Bytes_any _ hB5.pen).mono ?_; rintro e w6 ⟨v6, rfl, hs6, ht6⟩)
          have hB6 := (hB5.only0 ht6).only0 ((OnlyIn.refl [] w6).drew)
          have c6 := hB6.ref.blk.cell (i := 0) rfl
          obtain ⟨A6, n6, rfl, hn6⟩ := hB6.ref.sl.val
          have hlen := Len_any _ hB6.pen
          have hrb := RBytes_any _ hB6.ref
          have hr6 := Rd.of_sl hs6.drew
          have hpl : (pack L).length ≤ 1000000000 := by have := hB6.pen.small; rw [pack_length]; omega
          have hov := fun W (hW : OnlyIn [] w6 W) => OverBytes_any W v6 _ _ _ (hs6.only hW (by simp)) hpl
          have HB := Lib.hid (And.intro hB5 (And.intro ht6 hs6))
          clear hB5 hB6 ht6 hs6 hpl
          go_region_held3 (fun W => W.cell? ⟨c, 0, none⟩ = some (.slice A6 L.length n6)) (first | exact c6 | exact c7) ((first | (go_at_call 19; refine hlen.mono ?_; rintro e w7 ⟨rfl, rfl⟩) | (go_at_call 25; refine hrb.mono ?_; rintro e w7 ⟨rfl, hr7, ht7⟩; have c7 := ht7.cell c6 (by simp)) | (go_at_call 24; refine (SameBytes_any _ _ _ (pack L) (pack L) (hr6.cells fun p u hp => ht7.cell hp (by simp)) hr7).mono ?_; rintro e w8 ⟨rfl, rfl⟩)))
          clear c6 c7 hlen hrb
          go_wp2_with (go_at_call 26; refine (hov _ ((OnlyIn.refl [] w6).drew.trans ht7)).mono ?_; rintro e w9 ⟨rfl, ht9⟩)
          have HR := Lib.hid (pens_next (x := (actBits a).getD []) hlt (by rw [HH.out.2.1]) (by rw [HH.out.2.2]; exact HB.out.1.only0 (((HB.out.2.1.drew.trans ht7).then ht9 (fun g hg => .inr (by exact (HB.out.2.2.own_lt g (by simpa using hg)).1))))))
          clear ht7 ht9 hov hr6 hr7
          go_wp2_with fail
          go_roundw
          case rel => exact HR.out
          case measure => simp [intOf]; omega
        · rw [hac] at q0
          obtain ⟨n, hcode⟩ := Code_alike hBd a hac (by omega)
          generalize hL : allBits (l.take k) ++ (actBits a).getD [] = L at hcode
          have HH := Lib.hid (And.intro z3 (And.intro hak2 hL))
          clear hac hak hrr hB hBd z0 z1 z2 z3 hak2 hsl hL
          go_wp2_with fail
          go_region_held3 (fun W => W.cell? ⟨g, off + k * 4 + 3, none⟩ = some (.string (str a.s))) (first | exact q3 | exact p3 | exact o3) ((first | (go_at_call 18; refine hcode.mono ?_; rintro e w4 ⟨rfl, hto4, href⟩; have p3 := hto4.cell HH.out.1 (by simp)) | (go_at_call 22; refine href.mono ?_; rintro e w5 ⟨rfl, v5, u5, hB5⟩; have o3 := hB5.on.cell HH.out.1 (by simp))))
          clear q0 q1 q2 q3 hcode
          go_wp2_with (go_at_call 20; refine (Bytes_any _ hB5.pen).mono ?_; rintro e w6 ⟨v6, rfl, hs6, ht6⟩)
          have hB6 := (hB5.only0 ht6).only0 ((OnlyIn.refl [] w6).drew)
          have c6 := hB6.ref.blk.cell (i := 0) rfl
          obtain ⟨A6, n6, rfl, hn6⟩ := hB6.ref.sl.val
          have hlen := Len_any _ hB6.pen
          have hrb := RBytes_any _ hB6.ref
          have hr6 := Rd.of_sl hs6.drew
          have hpl : (pack L).length ≤ 1000000000 := by have := hB6.pen.small; rw [pack_length]; omega
          have hov := fun W (hW : OnlyIn [] w6 W) => OverBytes_any W v6 _ _ _ (hs6.only hW (by simp)) hpl
          have HB := Lib.hid (And.intro hB5 (And.intro ht6 hs6))
          clear hB5 hB6 ht6 hs6 hpl
          go_region_held3 (fun W => W.cell? ⟨c, 0, none⟩ = some (.slice A6 L.length n6)) (first | exact c6 | exact c7) ((first | (go_at_call 19; refine hlen.mono ?_; rintro e w7 ⟨rfl, rfl⟩) | (go_at_call 25; refine hrb.mono ?_; rintro e w7 ⟨rfl, hr7, ht7⟩; have c7 := ht7.cell c6 (by simp)) | (go_at_call 24; refine (SameBytes_any _ _ _ (pack L) (pack L) (hr6.cells fun p u hp => ht7.cell hp (by simp)) hr7).mono ?_; rintro e w8 ⟨rfl, rfl⟩)))
          clear c6 c7 hlen hrb
          go_wp2_with (go_at_call 26; refine (hov _ ((OnlyIn.refl [] w6).drew.trans ht7)).mono ?_; rintro e w9 ⟨rfl, ht9⟩)
          have HR := Lib.hid (pens_next (x := (actBits a).getD []) hlt (by rw [HH.out.2.1]) (by rw [HH.out.2.2]; exact HB.out.1.only0 (((HB.out.2.1.drew.trans ht7).then ht9 (fun g hg => .inr (by exact (HB.out.2.2.own_lt g (by simpa using hg)).1))))))
          clear ht7 ht9 hov hr6 hr7
          go_wp2_with fail
          go_roundw
          case rel => exact HR.out
          case measure => simp [intOf]; omega
      · have hbb := hB.on
        clear hB
        go_wp2_with (go_at_call 16; refine (awake_any _).mono ?_; rintro e w9 ⟨rfl, ht9⟩)
        go_ret
        exact ⟨rfl, hbb.trans ht9⟩
  · have hlong := Long_yes w vl l hr hml (fun a ha => (hok a ha).2.2) hsm
    go_enter Try.func4, Try.ntmps4
    go_wp2_with (first | (go_at_call 15; refine hlong.mono ?_; rintro e w1 ⟨rfl, rfl⟩) | (go_at_call 16; refine (awake_any _).mono ?_; rintro e w1 ⟨rfl, ht⟩))
    go_ret
    exact ⟨rfl, ht⟩
end Go.Proofs.Ytejomjkkjcnfnaa
