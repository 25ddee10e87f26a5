/-
  Package press: victims: for every body.
-/
import Derived.Test.YtmbnmhcfafgnaaaHeapPress
import Derived.Test.YtmbnmhcfafgnaaaPressLaw
import Derived.Sort.LoopGhostIn
namespace Go.Proofs.Ytmbnmhcfafgnaaa
open Go.RowKit Go.Mine Go.Shelf

attribute [local go_sem] Oper.semAt_some

set_option maxRecDepth 100000 in
theorem victims_any (w : World) (A : Option Addr) (n c : Nat) : Calls Try.prog 50 #[.slice A n c] w fun e w' => e = .returned (.func (.func 69) #[] #[.pointer (some ⟨w.heap.size, 0, none⟩)]) ∧ w.alloc (.cells #[.slice A n c] 22) = w' := by
  have hmf : ∀ (fn : Fn) (first cap : Array Value) (w : World), (Instr.makeFunc fn first cap).run Try.prog w = .ok (.func fn first cap) w := fun _ _ _ _ => rfl
  go_enter Try.func50, Try.ntmps50
  go_wp2
  go_ret
  exact ⟨rfl, rfl⟩

theorem StH.only {b base : Nat} {C : List Nat → World → Prop} (hC : ∀ F F' W W', C F W → OnlyIn F W W' → (∀ g ∈ F', g ∈ F ∨ W.heap.size ≤ g) → C F' W') {l : List Holder} {W W' : World} (h : StH b base C l W) (ht : OnlyIn [] W W') : StH b base C l W' := by
  obtain ⟨v, h1, h2, h3, h4, h5⟩ := h
  exact ⟨v, h1.only ht (by simp), h2.only ht (by simp), Nat.le_trans h3 ht.size, h4, hC _ _ _ _ h5 (ht.mono (by simp)) (fun g hg => .inl hg)⟩
theorem hmi (x y : Int) (W : World) : (Instr.makeInterface 41 (.agg #[.int .i64 x, .int .i64 y])).run Try.prog W = .ok (.iface 41 (.agg #[.int .i64 x, .int .i64 y])) W := by kernel_rfl

set_option maxHeartbeats 4000000 in
theorem vict1_any (ly B0 : Nat) (lv : Value) (l : List Holder) (hok : OkH l) (C : List Nat → Nat → World → Prop) (Cx : Nat → World → Prop)
    (hL : ∀ F k W, C F k W → Blk W B0 22 [lv] ∧ Rd W 2 lv l.length (hcs l))
    (hS : ∀ k F F' W W', C F k W → OnlyIn F W W' → (∀ g ∈ F', g ∈ F ∨ W.heap.size ≤ g) → C F' k W')
    (hY : ∀ F k x W, C F k W → (vict l)[k]? = some x → (∀ g ∈ F, g < W.heap.size) → YieldAt Fence.wide 0 Try.prog ly #[.int .i64 x.id, .int .i64 x.fr] W fun e W' =>
      (e = .returned (.bool true) ∧ C F (k + 1) W' ∧ W.heap.size ≤ W'.heap.size ∧ ∀ g ∈ F, W'.heap[g]? = W.heap[g]?) ∨ (e = .returned (.bool false) ∧ Cx (k + 1) W'))
    (W : World) (h0 : C [] 0 W) :
    Calls Try.prog 69 #[.func (.yield ly) #[] #[], .pointer (some ⟨B0, 0, none⟩)] W fun e W' => (∃ v, e = .returned v) ∧ ((∃ F, C F (vict l).length W') ∨ ∃ k, k ≤ (vict l).length ∧ Cx k W') := by
  have hlen := hok.1
  have HO := Lib.hid hok
  have HL := Lib.hid hL
  have HS := Lib.hid hS
  have HY := Lib.hid hY
  obtain ⟨hb0, hr0⟩ := hL _ _ _ h0
  obtain ⟨A, c, rfl, hlc⟩ : ∃ A c, lv = .slice A l.length c ∧ l.length ≤ c := by
    obtain ⟨-, A, c, h1, h2, -⟩ := hr0
    exact ⟨A, c, h1, h2⟩
  have c0 := (hb0.alloc (.cells #[.slice none 0 0] 101)).cell (i := 0) rfl
  have hst : StH W.heap.size W.heap.size (fun F W => C F 0 W) [] (W.alloc (.cells #[.slice none 0 0] 101)) :=
    ⟨_, Blk.new W 101 [.slice none 0 0], Sl.nil _ _ _ _, by simp, by simp, hS 0 [] _ W _ h0 ((OnlyIn.refl _ _).alloc _) (fun g hg => .inr (by simp [Value.ownBlock] at hg; omega))⟩
  obtain ⟨n, hn⟩ : ∃ n, l.length = n := ⟨_, rfl⟩
  rw [hn] at hlc hlen c0
  rw [hn] at HL
  obtain ⟨b, hb⟩ : ∃ b, W.heap.size = b := ⟨_, rfl⟩
  have HN := Lib.hid hn
  clear hok hL hS hY h0 hb0 hr0 hn
  (refine (callsIn_wide (n := 0)).1 ?_; refine callsIn_of_wp Try.func69 rfl trivial ?_ rfl; simp only [Try.ntmps69, List.size_toArray, List.length_cons, List.length_nil, Nat.reduceAdd, Nat.reduceSub, Array.replicate_succ, Array.replicate_zero, List.push_toArray, List.append_toArray, List.nil_append, List.cons_append])
  gi_wp2_with fail
  rw [hb] at hst
  generalize World.alloc W _ = w1 at c0 hst ⊢
  gi_loopw [9] (fun i wr => ∃ (k : Nat) (hl : List Holder), k ≤ n ∧ i = .int .i64 (k : Int) ∧ Hid (hl.Perm ((l.take k).filter fun h => decide (0 < h.fr)) ∧ HeapN ltH hl hl.length ∧ StH b b (fun F W => C F 0 W) hl wr)) (fun i _ => n - (intOf i).toNat)
  case atStart => exact ⟨0, [], by omega, rfl, Lib.hid ⟨by simp, HeapN.nil _ _, hst⟩⟩
  case round =>
    clear hst c0
    obtain ⟨k, hl, hk, rfl, HR⟩ := hrel
    by_cases hlt : k < n
    · have hkl : k < l.length := by rw [HN.out]; exact hlt
      obtain ⟨hp, hh, hS0⟩ := HR.out
      have hrd : Rd wr 2 (.slice A n c) n (hcs l) := by
        obtain ⟨_, _, _, _, _, hC⟩ := hS0
        exact (HL.out _ _ _ hC).2
      obtain ⟨x, hx⟩ : ∃ x, l[k]'hkl = x := ⟨_, rfl⟩
      have hgx : l[k]? = some x := by rw [List.getElem?_eq_getElem hkl, hx]
      obtain ⟨g, off, rfl, hcl⟩ : ∃ g off, A = some ⟨g, off, none⟩ ∧ ∀ j u, (hcs l)[j]? = some u → wr.cell? ⟨g, off + j, none⟩ = some u := by
        obtain ⟨-, A', c', hv, -, hA⟩ := hrd
        injection hv with hv _ _
        subst hv
        exact hA (by omega)
      have a0 := hcl _ _ (hcs_id hgx)
      have a1 := hcl _ _ (hcs_fr hgx)
      rw [← Nat.add_assoc] at a1
      have htk := take_snoc l hkl
      rw [hx] at htk
      have hfil : (l.take (k + 1)).filter (fun h => decide (0 < h.fr)) = (l.take k).filter (fun h => decide (0 < h.fr)) ++ (if 0 < x.fr then [x] else []) := by
        rw [htk, List.filter_append]
        by_cases hp : 0 < x.fr
        · simp [hp]
        · simp [hp]
      have hl64 : hl.length ≤ 64 := by
        rw [hp.length_eq]
        exact Nat.le_trans (List.length_filter_le _ _) (by rw [List.length_take]; omega)
      have hst1 := hS0.only (HS.out 0) ((OnlyIn.refl [] wr).alloc (.cells #[.int .i64 x.id, .int .i64 x.fr] 41))
      have hpu := Push_any (heapPress b b (fun F W => C F 0 W) (HS.out 0)) hst1 (by omega) hh x
      have hbx : boxH x = .iface 41 (.agg #[.int .i64 x.id, .int .i64 x.fr]) := rfl
      rw [hbx] at hpu
      obtain ⟨xi, hxi⟩ : ∃ z, x.id = z := ⟨_, rfl⟩
      obtain ⟨xf, hxf⟩ : ∃ z, x.fr = z := ⟨_, rfl⟩
      rw [hxi, hxf] at hst1 hpu
      rw [hxi] at a0
      rw [hxf] at a1 hfil
      have hmi := hmi
      have HQ := Lib.hid (And.intro hp (And.intro hh (And.intro hst1 hfil)))
      clear hp hh hS0 hrd hcl hst1 hfil htk hbx hxi hxf hgx hx hl64
      by_cases hpos : 0 < xf
      · have d1 : decide (0 < xf) = true := decide_eq_true hpos
        gi_wp2_with fail
        refine ⟨trivial, rfl, callsIn_wide.2 (hpu.mono ?_)⟩
        rintro e w2 ⟨⟨v, rfl⟩, l', hp', hh', hS'⟩
        have HZ := Lib.hid (And.intro hp' (And.intro hh' hS'))
        clear hp' hh' hS' hpu
        gi_wp2_with fail
        go_roundw
        case rel => exact ⟨k + 1, l', by omega, by go_num, Lib.hid ⟨HZ.out.1.trans (by rw [HQ.out.2.2.2, if_pos hpos]; exact HQ.out.1.append_right _), HZ.out.2.1, HZ.out.2.2⟩⟩
        case measure => simp [intOf]; omega
      · have d1 : decide (0 < xf) = false := decide_eq_false hpos
        clear hpu
        gi_wp2_with fail
        go_roundw
        case rel => exact ⟨k + 1, hl, by omega, by go_num, Lib.hid ⟨by rw [HQ.out.2.2.2, if_neg hpos, List.append_nil]; exact HQ.out.1, HQ.out.2.1, HQ.out.2.2.1⟩⟩
        case measure => simp [intOf]; omega
    · obtain rfl : k = n := by omega
      obtain ⟨hp, hh, hS0⟩ := HR.out
      have htk : l.take k = l := List.take_of_length_le (by rw [HN.out]; exact Nat.le_refl _)
      rw [htk] at hp
      have hpv : hl.Perm ((vict l).drop 0) := hp.trans (vict_perm l).symm
      have HQ0 := Lib.hid (And.intro hpv (And.intro hh hS0))
      clear hp hh hS0 htk hpv HR
      have hta := hta
      gi_wp2_with fail
      gi_loopg [6] ((vict l).length) (fun kx _ wr => ∃ (q : Nat) (hl : List Holder), q + kx = (vict l).length ∧ Hid (hl.Perm ((vict l).drop q) ∧ HeapN ltH hl hl.length ∧ StH b b (fun F W => C F q W) hl wr))
      case atStart => exact ⟨0, hl, by omega, HQ0⟩
      case round =>
        clear HQ0
        obtain ⟨q, hl, hq, HR⟩ := hrel
        obtain ⟨hp, hh, hS0⟩ := HR.out
        have hlq : hl.length = (vict l).length - q := by rw [hp.length_eq, List.length_drop]
        have HS0 := Lib.hid hS0
        obtain ⟨v, hB, hsl, hbw, -, hCq⟩ := hS0
        obtain ⟨A2, c2, hv, -⟩ := hsl.val
        obtain ⟨m, hm⟩ : ∃ m, hl.length = m := ⟨_, rfl⟩
        rw [hm] at hv hlq
        subst hv
        have r0 := hB.cell (i := 0) rfl
        by_cases hpos : 0 < m
        · have d1 : decide ((0 : Int) < (m : Int)) = true := decide_eq_true (by omega)
          have hpo := Pop_any (heapPress b b (fun F W => C F q W) (HS.out q)) HS0.out (by omega) hh
          have HZ := Lib.hid (And.intro hp hm)
          clear HS0 hh hp hm hsl hB hCq HR
          gi_wp2_with fail
          refine ⟨trivial, rfl, callsIn_wide.2 (hpo.mono ?_)⟩
          clear hpo r0
          rintro e w2 ⟨x, l', rfl, hroot, hpx, hh', hS'⟩
          have hxq : (vict l)[q]? = some x := by
            have hql : q < (vict l).length := by omega
            have hdr := List.drop_eq_getElem_cons hql
            have hsr : (((vict l)[q]'hql) :: (vict l).drop (q + 1)).Pairwise fun a b => ltH a b = true := by rw [← hdr]; exact (vict_sorted HO.out).sublist (List.drop_sublist _ _)
            have := vict_next hsr (by rw [← hdr]; exact HZ.out.1) (hpx.mem_iff.2 List.mem_cons_self) hroot
            rw [List.getElem?_eq_getElem hql, this]
          have hpn : l'.Perm ((vict l).drop (q + 1)) := by
            have hql : q < (vict l).length := by omega
            have hdr := List.drop_eq_getElem_cons hql
            have e : (vict l)[q]'hql = x := by rw [List.getElem?_eq_getElem hql] at hxq; injection hxq
            rw [e] at hdr
            have := hpx.symm.trans HZ.out.1
            rw [hdr] at this
            exact List.Perm.cons_inv this
          have hst1 := hS'.only (HS.out q) ((OnlyIn.refl [] w2).alloc (.cells #[.int .i64 x.id, .int .i64 x.fr] 41))
          have hnb := Blk.new w2 41 [.int .i64 x.id, .int .i64 x.fr]
          have hyy : ∀ W9, StH b b (fun F W => C F q W) l' W9 → YieldAt Fence.wide 0 Try.prog ly #[.int .i64 x.id, .int .i64 x.fr] W9 (fun e W' => (e = .returned (.bool true) ∧ StH b b (fun F W => C F (q + 1) W) l' W') ∨ (e = .returned (.bool false) ∧ Cx (q + 1) W')) := by
            rintro W9 ⟨v9, hB9, hs9, hb9, hl9, hC9⟩
            refine YieldAt.mono_ (HY.out _ q x W9 hC9 hxq (fun g hg => ?_)) fun e W' h => ?_
            · simp only [List.mem_cons, Option.mem_toList] at hg
              rcases hg with rfl | hg
              · exact hB9.lt
              · exact (hs9.own_lt g hg).2
            · rcases h with ⟨he, hC', hsz, hF⟩ | h
              · exact .inl ⟨he, v9, (hF b (by simp)).trans hB9, hs9.block (fun g hg => hF g (by simp [hg])), by omega, hl9, hC'⟩
              · exact .inr h
          have hy1 := hyy _ hst1
          have hbx : boxH x = .iface 41 (.agg #[.int .i64 x.id, .int .i64 x.fr]) := rfl
          rw [hbx]
          obtain ⟨xi, hxi⟩ : ∃ z, x.id = z := ⟨_, rfl⟩
          obtain ⟨xf, hxf⟩ : ∃ z, x.fr = z := ⟨_, rfl⟩
          rw [hxi, hxf] at hy1 hnb ⊢
          obtain ⟨fn, tmps, assign, body, hy, hR⟩ := hy1
          have HW := Lib.hid (And.intro hpn hh')
          clear hxq hpn hst1 hyy hS' hh' hroot hpx hbx hxi hxf HZ
          gi_wp2_with fail
          refine ⟨rfl, hR.mono ?_⟩
          clear hR hy hnb
          rintro e w3 (⟨rfl, hS3⟩ | ⟨rfl, hX⟩)
          · have HS3 := Lib.hid hS3
            clear hS3
            gi_wp2_with fail
            gi_roundg ((vict l).length - (q + 1))
            case measure => omega
            case rel => exact ⟨q + 1, l', by omega, Lib.hid ⟨HW.out.1, HW.out.2, HS3.out⟩⟩
          · have HX := Lib.hid hX
            clear hX
            gi_wp2_with fail
            refine bodyPost_ret (results_none rfl _ _ _) rfl ?_
            exact ⟨⟨_, rfl⟩, .inr ⟨q + 1, by omega, HX.out⟩⟩
        · have d1 : decide ((0 : Int) < (m : Int)) = false := decide_eq_false (by omega)
          have hql : (vict l).length = q := by omega
          have hfin : ∃ F, C F (vict l).length wr := ⟨_, by rw [hql]; exact hCq⟩
          have HF := Lib.hid hfin
          clear HS0 hh hp hm hsl hB hCq HR hfin
          gi_wp2_with fail
          go_end0
          exact ⟨⟨_, rfl⟩, .inl HF.out⟩
end Go.Proofs.Ytmbnmhcfafgnaaa
