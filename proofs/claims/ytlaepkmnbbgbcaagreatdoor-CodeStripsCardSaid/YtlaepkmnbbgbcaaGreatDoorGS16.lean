/- CodePrefixes returns true. (Written by wip/tools/genQQ.py.) -/
import Derived.Test.YtlaepkmnbbgbcaaGreatDoorGS15
import Derived.Test.YtlaepkmnbbgbcaaGreatDoorGB16
import Derived.Test.YtlaepkmnbbgbcaaGreatDoorGB12
/- CodePrefixes returns true. (Written by wip/tools/genQQ.py.) -/
namespace Go.Proofs.YtlaepkmnbbgbcaaGreatDoor
open Go.RowKit Go.Instr Go.Shelf
set_option linter.unusedVariables false
set_option linter.unusedSimpArgs false
attribute [local go_sem] Oper.semAt_some

theorem orig_len (c : Co) : ∀ (L : Nat) (a : Int) (l : List Int), origL c L a = some l → l.length = L
  | 0, a, l, h => by unfold origL at h; injection h with h; subst h; rfl
  | L + 1, a, l, h => by
    unfold origL at h
    split at h
    · cases h
    · obtain ⟨l', h', rfl⟩ := Option.map_eq_some_iff.1 h
      rw [List.length_cons, orig_len c L _ l' h']
theorem wpList_unguard {P : Program} {ops : Array Oper} {Q : Exit → Act → World → Prop} {a : Act} {w : World} {rest : List Oper} {o : Oper} (hw : Region.wanted o (yielded ops a.tmps) = true)
    (h : wpList P ops Q ({ o with guard := none } :: rest) a w) : wpList P ops Q (o :: rest) a w := by
  unfold wpList at h ⊢
  simp only [hw, if_true]
  simp only [Region.wanted, if_true] at h
  exact h
theorem origR_of {w : World} {c : Co} {a L : Nat} (hg : (chk c).1 = 0) (ha : a < c.descs.length) {e : Ending} {w' : World} (h : OrigR w c (a : Nat) (L : Nat) e w') :
    match origL c L (a : Nat) with
    | none => e = .returned (.tuple #[.slice none 0 0, .int .i64 5]) ∧ Ex w w'
    | some l => ∃ v, e = .returned (.tuple #[v, .int .i64 0]) ∧ OwnI w' w.heap.size v l ∧ Ex w w' := by
  unfold OrigR at h
  rw [if_pos ⟨hg, by omega, by omega, by omega⟩] at h
  exact h
set_option maxRecDepth 100000 in
set_option maxHeartbeats 8000000 in
theorem CodePrefixes_any {w : World} (hmx : Mx w) (htb : Tab w) {dv lv tv rv iv : Value} {c : Co} {xs : List DeV} (h : RdCo w dv lv tv rv iv c xs) (at_ m n : Int) :
    Calls Tryz.prog 5 #[codeV dv lv tv rv iv, .int .i64 at_, .int .i64 m, .int .i64 n] w fun e w' => e = .returned (.bool true) ∧ Ex w w' := by
  obtain ⟨W1, hW1⟩ : ∃ W1, w.alloc (.cells #[dv, lv, tv, rv, iv] 28) = W1 := ⟨_, rfl⟩
  obtain ⟨b0, hb0⟩ : ∃ b0, w.heap.size = b0 := ⟨_, rfl⟩
  have hX1 : Ex w W1 := by rw [← hW1]; exact (Keeps.refl _ w).alloc _
  have hB0 : Blk W1 b0 #[dv, lv, tv, rv, iv] 28 := by rw [← hW1, ← hb0]; exact Blk.new w _ _
  have hs1 : W1.heap.size = b0 + 1 := by rw [← hW1, World.size_alloc, hb0]
  have hf := fine_any (h.ext hX1)
  have HSan : ∀ V, Ex w V → Hid (Calls Tryz.prog 13 #[] V fun e w' => e = .returned (.bool true) ∧ Ex V w') := fun V hV => Lib.hid (sanity_any (hmx.ext hV) (htb.ext hV))
  have HOr : Hid (smallB c = true → ∀ V, Ex W1 V → ∀ a l, Calls Tryz.prog 24 #[codeV dv lv tv rv iv, .int .i64 a, .int .i64 l] V (OrigR V c a l)) := Lib.hid (fun hb V hV a l => Origins_any ((h.ext hX1).ext hV) (small_big hb) a l)
  obtain ⟨da, dc, rfl, -, hd1, -⟩ := id h.ds
  obtain ⟨la, lc, rfl, -⟩ := id h.ls
  obtain ⟨ta, tc, rfl, -⟩ := id h.ts
  obtain ⟨ra, rc, rfl, -⟩ := id h.rs
  obtain ⟨ia, ic, rfl, -⟩ := id h.is
  have HF0 : ∀ V, Ex W1 V → Hid (V.cell? ⟨b0, 0, none⟩ = some (.slice da xs.length dc) ∧ V.cell? ⟨b0, 1, none⟩ = some (.slice la c.labels.length lc) ∧ V.cell? ⟨b0, 2, none⟩ = some (.slice ta c.texts.length tc) ∧ V.cell? ⟨b0, 3, none⟩ = some (.slice ra c.reals.length rc) ∧ V.cell? ⟨b0, 4, none⟩ = some (.slice ia c.instrs.length ic)) := fun V hV =>
    ⟨((hV.blk hB0 id).cell 0).trans rfl, ((hV.blk hB0 id).cell 1).trans rfl, ((hV.blk hB0 id).cell 2).trans rfl, ((hV.blk hB0 id).cell 3).trans rfl, ((hV.blk hB0 id).cell 4).trans rfl⟩
  have hxl := h.len
  obtain ⟨nd, hnd⟩ : ∃ n, xs.length = n := ⟨_, rfl⟩
  have hcn : c.descs.length = nd := by rw [← hxl, hnd]
  rw [hnd] at hf hW1 HF0 HOr ⊢
  unfold codeV at hf HOr ⊢
  have H := Lib.hid h; have HX1 := Lib.hid hX1; have HW1 := Lib.hid hW1; have Hb0 := Lib.hid hb0; have HFn := Lib.hid hf; have Hd1 := Lib.hid hd1; have HN := Lib.hid hxl; have Hnd := Lib.hid hnd; have Hcn := Lib.hid hcn; have Hs1 := Lib.hid hs1
  clear h hX1 hB0 hW1 hb0 hf hd1 hxl hnd hcn hs1 hmx htb
  obtain ⟨x0, x1, x2, x3, x4⟩ := (HF0 W1 (Keeps.refl _ _)).out
  go_enter Tryz.func5, Tryz.ntmps5
  go_upto_region 1 with fail
  rw [HW1.out]
  try rw [Hb0.out]
  go_wp2_with fail
  refine HFn.out.mono ?_
  rintro e w2 ⟨rfl, hx2⟩
  have HX2 := Lib.hid hx2
  clear hx2 x0 x1 x2 x3 x4
  obtain ⟨x0, x1, x2, x3, x4⟩ := (HF0 w2 HX2.out).out
  cases hfb : fineB c with
  | false =>
    clear hfb
    go_wp2_with fail
    refine (HSan _ (HX1.out.trans HX2.out)).out.mono ?_
    rintro e ws ⟨rfl, hxs⟩
    have HXs := Lib.hid ((HX1.out.trans HX2.out).trans hxs)
    clear hxs
    go_wp2_with fail
    go_ret
    exact ⟨rfl, HXs.out⟩
  | true =>
  have HFb := Lib.hid hfb
  clear hfb
  by_cases gq1 : 0 ≤ at_
  case neg =>
    have q1 : at_ < 0 := by omega
    go_wp2_with fail
    refine (HSan _ (HX1.out.trans HX2.out)).out.mono ?_
    rintro e ws ⟨rfl, hxs⟩
    have HXs := Lib.hid ((HX1.out.trans HX2.out).trans hxs)
    clear hxs
    go_wp2_with fail
    go_ret
    exact ⟨rfl, HXs.out⟩
  have q1 : ¬ (at_ < 0) := by omega
  by_cases gq2 : at_ < nd
  case neg =>
    have q2 : (nd : Int) ≤ at_ := by omega
    go_wp2_with fail
    refine (HSan _ (HX1.out.trans HX2.out)).out.mono ?_
    rintro e ws ⟨rfl, hxs⟩
    have HXs := Lib.hid ((HX1.out.trans HX2.out).trans hxs)
    clear hxs
    go_wp2_with fail
    go_ret
    exact ⟨rfl, HXs.out⟩
  have q2 : ¬ ((nd : Int) ≤ at_) := by omega
  by_cases gq3 : 0 ≤ m
  case neg =>
    have q3 : m < 0 := by omega
    go_wp2_with fail
    refine (HSan _ (HX1.out.trans HX2.out)).out.mono ?_
    rintro e ws ⟨rfl, hxs⟩
    have HXs := Lib.hid ((HX1.out.trans HX2.out).trans hxs)
    clear hxs
    go_wp2_with fail
    go_ret
    exact ⟨rfl, HXs.out⟩
  have q3 : ¬ (m < 0) := by omega
  by_cases gq4 : 0 ≤ n
  case neg =>
    have q4 : n < 0 := by omega
    go_wp2_with fail
    refine (HSan _ (HX1.out.trans HX2.out)).out.mono ?_
    rintro e ws ⟨rfl, hxs⟩
    have HXs := Lib.hid ((HX1.out.trans HX2.out).trans hxs)
    clear hxs
    go_wp2_with fail
    go_ret
    exact ⟨rfl, HXs.out⟩
  have q4 : ¬ (n < 0) := by omega
  by_cases gq5 : m ≤ 60
  case neg =>
    have q5 : 60 < m := by omega
    go_wp2_with fail
    refine (HSan _ (HX1.out.trans HX2.out)).out.mono ?_
    rintro e ws ⟨rfl, hxs⟩
    have HXs := Lib.hid ((HX1.out.trans HX2.out).trans hxs)
    clear hxs
    go_wp2_with fail
    go_ret
    exact ⟨rfl, HXs.out⟩
  have q5 : ¬ (60 < m) := by omega
  by_cases gq6 : n ≤ 60
  case neg =>
    have q6 : 60 < n := by omega
    go_wp2_with fail
    refine (HSan _ (HX1.out.trans HX2.out)).out.mono ?_
    rintro e ws ⟨rfl, hxs⟩
    have HXs := Lib.hid ((HX1.out.trans HX2.out).trans hxs)
    clear hxs
    go_wp2_with fail
    go_ret
    exact ⟨rfl, HXs.out⟩
  have q6 : ¬ (60 < n) := by omega
  have hfb := HFb.out
  unfold fineB at hfb
  simp only [Bool.and_eq_true, decide_eq_true_eq] at hfb
  have HSm := Lib.hid hfb.1
  have HG := Lib.hid hfb.2
  have HGood := Lib.hid ((good_iff c).1 hfb.2)
  clear hfb
  obtain ⟨a0, rfl⟩ : ∃ a : Nat, at_ = a := ⟨at_.toNat, by omega⟩
  obtain ⟨m0, rfl⟩ : ∃ a : Nat, m = a := ⟨m.toNat, by omega⟩
  obtain ⟨n0, rfl⟩ : ∃ a : Nat, n = a := ⟨n.toNat, by omega⟩
  go_upto_region 3 with fail
  have d1 : decide (nd ≤ a0) = false := decide_eq_false (by omega)
  have d2 : decide ((a0 : Int) < 0) = false := decide_eq_false (by omega)
  have d3 : decide ((m0 : Int) < 0) = false := decide_eq_false (by omega)
  have d4 : decide ((n0 : Int) < 0) = false := decide_eq_false (by omega)
  have d5 : decide ((60 : Int) < (m0 : Int)) = false := decide_eq_false (by omega)
  have d6 : decide ((60 : Int) < (n0 : Int)) = false := decide_eq_false (by omega)
  simp only [d1, d2, d3, d4, d5, d6, Bool.or_false]
  have Hm0 : Hid (m0 ≤ 60) := Lib.hid (by omega)
  have Hn0 : Hid (n0 ≤ 60) := Lib.hid (by omega)
  have Ha0 : Hid (a0 < nd) := Lib.hid (by omega)
  clear d1 d2 d3 d4 d5 d6 q1 q2 q3 q4 q5 q6
  have hn2 : nd ≤ 2000 := by have := HGood.out.d2; rw [Hcn.out] at this; exact this
  obtain ⟨dad, rfl⟩ : ∃ ad, da = some ad := by
    cases da with
    | none => have := Hd1.out rfl; have h9 := Hnd.out; rw [this] at h9; simp at h9; have := Ha0.out; omega
    | some ad => exact ⟨ad, rfl⟩
  obtain ⟨x, hx⟩ : ∃ x, xs[a0]? = some x := ⟨_, List.getElem?_eq_getElem (by rw [Hnd.out]; exact Ha0.out)⟩
  have hxd : c.descs[a0]? = some x.d := by rw [← H.out.eq, List.getElem?_map, hx]; rfl
  have hde : c.de (a0 : Nat) = x.d := by unfold Co.de; rw [List.getD_eq_getElem?_getD, show (((a0 : Nat) : Int).toNat) = a0 from rfl, hxd]; rfl
  have hD := H.out.de x (List.mem_of_getElem? hx)
  obtain ⟨A, hA⟩ : ∃ A, dad.add (a0 * 11) = A := ⟨_, rfl⟩
  obtain ⟨e0, e1, e2, e3, e4, e5, e6, e7, e8, e9, e10⟩ := (H.out.ds.ext (HX1.out.trans HX2.out)).deCells hx hA
  obtain ⟨d, cv, uv, vv⟩ := x
  obtain ⟨ca, cc, ec, hcc, hc0, -⟩ := id hD.chain
  obtain ⟨ua, uc, eu, -⟩ := id hD.up
  obtain ⟨va, vc, ev, -⟩ := id hD.virts
  simp only at ec eu ev hxd hde e0 e1 e2 e3 e4 e5 e6 e7 e8 e9 e10
  subst ec; subst eu; subst ev
  obtain ⟨m1, hm1⟩ : ∃ m, d.chain.length = m := ⟨_, rfl⟩
  obtain ⟨m2, hm2⟩ : ∃ m, d.up.length = m := ⟨_, rfl⟩
  obtain ⟨m3, hm3⟩ : ∃ m, d.virts.length = m := ⟨_, rfl⟩
  have hga := good_around HGood.out (i := a0) (by rw [Hcn.out]; exact Ha0.out)
  rw [hde] at hga
  rw [hm1] at e1 hga; rw [hm2] at e2; rw [hm3] at e5
  have hcc2 : m1 ≤ cc := by rw [← hm1]; exact hcc
  obtain ⟨cad, rfl⟩ : ∃ a, ca = some a := by
    cases ca with
    | none => have := hc0 rfl; simp only at this; rw [this] at hm1; simp at hm1; omega
    | some a => exact ⟨a, rfl⟩
  have hChain : RdL encI w (.slice (some cad) m1 cc) d.chain := by rw [← hm1]; exact hD.chain
  obtain ⟨W3, hW3⟩ : ∃ W3, w2.alloc (.cells #[.int .i64 d.around, .slice (some cad) m1 cc, .slice ua m2 uc, .int .i64 d.offset, .int .i64 d.cells, .slice va m3 vc, .int .i64 d.init, .int .i64 d.enter, .int .i64 d.do_, .int .i64 d.exit, .int .i64 d.stack] 50) = W3 := ⟨_, rfl⟩
  obtain ⟨b3, hb3⟩ : ∃ b, w2.heap.size = b := ⟨_, rfl⟩
  have hX3 : Ex w2 W3 := by rw [← hW3]; exact (Keeps.refl _ w2).alloc _
  have hB3 : Blk W3 b3 #[.int .i64 d.around, .slice (some cad) m1 cc, .slice ua m2 uc, .int .i64 d.offset, .int .i64 d.cells, .slice va m3 vc, .int .i64 d.init, .int .i64 d.enter, .int .i64 d.do_, .int .i64 d.exit, .int .i64 d.stack] 50 := by rw [← hW3, ← hb3]; exact Blk.new w2 _ _
  have hm40 : m1 ≤ 40 := hga.2.2
  have HX3 := Lib.hid (HX2.out.trans hX3); have HB3 := Lib.hid hB3; have HW3 := Lib.hid hW3; have Hb3 := Lib.hid hb3; have HDe := Lib.hid hde; have HCh := Lib.hid hChain; have Hm1 := Lib.hid hm1
  have Hcc := Lib.hid hcc2
  clear hX3 hB3 hW3 hb3 hde hChain hm1 hm2 hm3 hD hcc hc0 hx hxd hga hcc2
  go_upto_region 4 with fail
  rw [HW3.out]
  try rw [Hb3.out]
  clear e0 e1 e2 e3 e4 e5 e6 e7 e8 e9 e10 x0 x1 x2 x3 x4
  go_wp2_with fail
  go_loopw [10, 11] (fun s q wr => ∃ k : Nat, k ≤ m1 ∧ s = .int .i64 (preS c (d.chain.take k)) ∧ q = .int .i64 k ∧ Hid (Ex W3 wr)) (fun s q wr => m1 - (intOf q).toNat)
  case atStart => exact ⟨0, Nat.zero_le _, rfl, rfl, Lib.hid (Keeps.refl _ _)⟩
  case round =>
    obtain ⟨k, hk, rfl, rfl, HX⟩ := hrel
    obtain ⟨x0, x1, x2, x3, x4⟩ := (HF0 wr (HX3.out.trans HX.out)).out
    have y1 : wr.cell? ⟨b3, 1, none⟩ = some (.slice (some cad) m1 cc) := ((HX.out.blk HB3.out id).cell 1).trans rfl
    by_cases hlt : k < m1
    case pos =>
      have hlt2 : k < d.chain.length := by rw [Hm1.out]; exact hlt
      have hp := pre_ok HGood.out (a := a0) (by rw [Hcn.out]; exact Ha0.out) k (by rw [HDe.out]; exact hlt2)
      rw [HDe.out] at hp
      obtain ⟨i, hi⟩ : ∃ i : Nat, d.chain.getD k 0 = i := ⟨(d.chain.getD k 0).toNat, by have := hp.lo; omega⟩
      have hz0 : w.cell? (cad.add k) = some (.int .i64 (i : Nat)) := by rw [← hi]; exact HCh.out.int_at hlt2
      have hin : i < nd := by have := hp.hi; rw [hi, Hcn.out] at this; omega
      obtain ⟨yx, hy⟩ : ∃ x, xs[i]? = some x := ⟨_, List.getElem?_eq_getElem (by rw [Hnd.out]; exact hin)⟩
      have hyd : c.descs[i]? = some yx.d := by rw [← H.out.eq, List.getElem?_map, hy]; rfl
      have hde2 : c.de (d.chain.getD k 0) = yx.d := by rw [hi]; unfold Co.de; rw [List.getD_eq_getElem?_getD, show (((i : Nat) : Int).toNat) = i from rfl, hyd]; rfl
      have hDy := H.out.de yx (List.mem_of_getElem? hy)
      obtain ⟨A2, hA2⟩ : ∃ A, dad.add (i * 11) = A := ⟨_, rfl⟩
      obtain ⟨e0, e1, e2, e3, e4, e5, e6, e7, e8, e9, e10⟩ := H.out.ds.deCells hy hA2
      obtain ⟨y, cv, uv, vv⟩ := yx
      obtain ⟨cay, ccy, ec, -⟩ := id hDy.chain
      obtain ⟨uay, ucy, eu, -⟩ := id hDy.up
      obtain ⟨vay, vcy, ev, -⟩ := id hDy.virts
      simp only at ec eu ev hyd hde2 e0 e1 e2 e3 e4 e5 e6 e7 e8 e9 e10
      subst ec; subst eu; subst ev
      obtain ⟨n1, hn1⟩ : ∃ m, y.chain.length = m := ⟨_, rfl⟩
      obtain ⟨n2, hn2⟩ : ∃ m, y.up.length = m := ⟨_, rfl⟩
      obtain ⟨n3, hn3⟩ : ∃ m, y.virts.length = m := ⟨_, rfl⟩
      rw [hn1] at e1; rw [hn2] at e2; rw [hn3] at e5
      have hychain : RdL encI w (.slice cay n1 ccy) y.chain := by rw [← hn1]; exact hDy.chain
      obtain ⟨p1, p2, -, -, p5, p6, p7⟩ := hp
      rw [hde2] at p1 p2 p5 p6 p7
      have HQof : ∀ V, Ex W3 V → Hid (V.cell? ⟨b0, 0, none⟩ = some (.slice (some dad) nd dc) ∧ V.cell? ⟨b3, 1, none⟩ = some (.slice (some cad) m1 cc) ∧ V.cell? (cad.add k) = some (.int .i64 (i : Nat)) ∧ V.cell? A2 = some (.int .i64 y.around) ∧ V.cell? ⟨A2.block, A2.off + 1, none⟩ = some (.slice cay n1 ccy) ∧ V.cell? ⟨A2.block, A2.off + 2, none⟩ = some (.slice uay n2 ucy) ∧ V.cell? ⟨A2.block, A2.off + 3, none⟩ = some (.int .i64 y.offset) ∧ V.cell? ⟨A2.block, A2.off + 4, none⟩ = some (.int .i64 y.cells) ∧ V.cell? ⟨A2.block, A2.off + 5, none⟩ = some (.slice vay n3 vcy) ∧ V.cell? ⟨A2.block, A2.off + 6, none⟩ = some (.int .i64 y.init) ∧ V.cell? ⟨A2.block, A2.off + 7, none⟩ = some (.int .i64 y.enter) ∧ V.cell? ⟨A2.block, A2.off + 8, none⟩ = some (.int .i64 y.do_) ∧ V.cell? ⟨A2.block, A2.off + 9, none⟩ = some (.int .i64 y.exit) ∧ V.cell? ⟨A2.block, A2.off + 10, none⟩ = some (.int .i64 y.stack)) := fun V hV => by
        have hw : Ex w V := HX1.out.trans (HX3.out.trans hV)
        exact Lib.hid ⟨(HF0 V (HX3.out.trans hV)).out.1, ((hV.blk HB3.out id).cell 1).trans rfl, ex_cell hw hz0, ex_cell hw e0, ex_cell hw e1, ex_cell hw e2, ex_cell hw e3, ex_cell hw e4, ex_cell hw e5, ex_cell hw e6, ex_cell hw e7, ex_cell hw e8, ex_cell hw e9, ex_cell hw e10⟩
      have HYc := Lib.hid hychain; have P1 := Lib.hid p1; have P2 := Lib.hid p2; have P5 := Lib.hid p5; have P6 := Lib.hid p6; have P7 := Lib.hid p7
      have Hin := Lib.hid hin; have HDe2 := Lib.hid hde2; have Hi := Lib.hid hi; have Hlt2 := Lib.hid hlt2
      clear hz0 hi hy hyd hde2 hDy e0 e1 e2 e3 e4 e5 e6 e7 e8 e9 e10 hn1 hn2 hn3 hychain p1 p2 p5 p6 p7 hlt2
      go_upto_region 8 with fail
      clear x0 x1 x2 x3 x4 y1
      obtain ⟨W4, hW4⟩ : ∃ W, wr.drew = W := ⟨_, rfl⟩
      have hX4 : Ex W3 W4 := by rw [← hW4]; exact HX.out.drew
      have HQ := HQof W4 hX4
      refine region_U_plain (n := 9) (fun V => V.cell? ⟨b0, 0, none⟩ = some (.slice (some dad) nd dc) ∧ V.cell? ⟨b3, 1, none⟩ = some (.slice (some cad) m1 cc) ∧ V.cell? (cad.add k) = some (.int .i64 (i : Nat)) ∧ V.cell? A2 = some (.int .i64 y.around) ∧ V.cell? ⟨A2.block, A2.off + 1, none⟩ = some (.slice cay n1 ccy) ∧ V.cell? ⟨A2.block, A2.off + 2, none⟩ = some (.slice uay n2 ucy) ∧ V.cell? ⟨A2.block, A2.off + 3, none⟩ = some (.int .i64 y.offset) ∧ V.cell? ⟨A2.block, A2.off + 4, none⟩ = some (.int .i64 y.cells) ∧ V.cell? ⟨A2.block, A2.off + 5, none⟩ = some (.slice vay n3 vcy) ∧ V.cell? ⟨A2.block, A2.off + 6, none⟩ = some (.int .i64 y.init) ∧ V.cell? ⟨A2.block, A2.off + 7, none⟩ = some (.int .i64 y.enter) ∧ V.cell? ⟨A2.block, A2.off + 8, none⟩ = some (.int .i64 y.do_) ∧ V.cell? ⟨A2.block, A2.off + 9, none⟩ = some (.int .i64 y.exit) ∧ V.cell? ⟨A2.block, A2.off + 10, none⟩ = some (.int .i64 y.stack)) 10 (by kernel_rfl) ?_
      rw [hW4]
      clear hW4
      have r1 : ((i : Int) < nd) := by omega
      have r2 : ((k : Int) < m1) := by omega
      refine anyU_quiet (a2 := ?a0) 0 rfl rfl rfl (by kernel_rfl) (by kernel_rfl) (by kernel_rfl) (by kernel_rfl) (by kernel_rfl) (by kernel_rfl) (fun _ _ _ _ h => h) HQ.out ?h0 ?k0
      case h0 => intro W hW K hK; obtain ⟨s0, s1, s2, t0, t1, t2, t3, t4, t5, t6, t7, t8, t9, t10⟩ := hW; go_simp; exact hK
      refine anyU_quiet (a2 := ?a1) 1 rfl rfl rfl (by kernel_rfl) (by kernel_rfl) (by kernel_rfl) (by kernel_rfl) (by kernel_rfl) (by kernel_rfl) (fun _ _ _ _ h => h) HQ.out ?h1 ?k1
      case h1 => intro W hW K hK; obtain ⟨s0, s1, s2, t0, t1, t2, t3, t4, t5, t6, t7, t8, t9, t10⟩ := hW; go_simp; exact hK
      refine anyU_quiet (a2 := ?a2) 2 rfl rfl rfl (by kernel_rfl) (by kernel_rfl) (by kernel_rfl) (by kernel_rfl) (by kernel_rfl) (by kernel_rfl) (fun _ _ _ _ h => h) HQ.out ?h2 ?k2
      case h2 => intro W hW K hK; obtain ⟨s0, s1, s2, t0, t1, t2, t3, t4, t5, t6, t7, t8, t9, t10⟩ := hW; go_simp; exact hK
      refine anyU_quiet (a2 := ?a3) 3 rfl rfl rfl (by kernel_rfl) (by kernel_rfl) (by kernel_rfl) (by kernel_rfl) (by kernel_rfl) (by kernel_rfl) (fun _ _ _ _ h => h) HQ.out ?h3 ?k3
      case h3 => intro W hW K hK; obtain ⟨s0, s1, s2, t0, t1, t2, t3, t4, t5, t6, t7, t8, t9, t10⟩ := hW; go_simp; exact hK
      refine anyU_quiet (a2 := ?a4) 4 rfl rfl rfl (by kernel_rfl) (by kernel_rfl) (by kernel_rfl) (by kernel_rfl) (by kernel_rfl) (by kernel_rfl) (fun _ _ _ _ h => h) HQ.out ?h4 ?k4
      case h4 => intro W hW K hK; obtain ⟨s0, s1, s2, t0, t1, t2, t3, t4, t5, t6, t7, t8, t9, t10⟩ := hW; go_simp; exact hK
      refine anyU_quiet (a2 := ?a5) 5 rfl rfl rfl (by kernel_rfl) (by kernel_rfl) (by kernel_rfl) (by kernel_rfl) (by kernel_rfl) (by kernel_rfl) (fun _ _ _ _ h => h) HQ.out ?h5 ?k5
      case h5 => intro W hW K hK; obtain ⟨s0, s1, s2, t0, t1, t2, t3, t4, t5, t6, t7, t8, t9, t10⟩ := hW; go_simp; exact hK
      refine anyU_quiet (a2 := ?a6) 6 rfl rfl rfl (by kernel_rfl) (by kernel_rfl) (by kernel_rfl) (by kernel_rfl) (by kernel_rfl) (by kernel_rfl) (fun _ _ _ _ h => h) HQ.out ?h6 ?k6
      case h6 => intro W hW K hK; obtain ⟨s0, s1, s2, t0, t1, t2, t3, t4, t5, t6, t7, t8, t9, t10⟩ := hW; go_simp; exact hK
      refine anyU_quiet (a2 := ?a7) 7 rfl rfl rfl (by kernel_rfl) (by kernel_rfl) (by kernel_rfl) (by kernel_rfl) (by kernel_rfl) (by kernel_rfl) (fun _ _ _ _ h => h) HQ.out ?h7 ?k7
      case h7 => intro W hW K hK; obtain ⟨s0, s1, s2, t0, t1, t2, t3, t4, t5, t6, t7, t8, t9, t10⟩ := hW; go_simp; exact hK
      refine anyU_quiet (a2 := ?a8) 8 rfl rfl rfl (by kernel_rfl) (by kernel_rfl) (by kernel_rfl) (by kernel_rfl) (by kernel_rfl) (by kernel_rfl) (fun _ _ _ _ h => h) HQ.out ?h8 ?k8
      case h8 => intro W hW K hK; obtain ⟨s0, s1, s2, t0, t1, t2, t3, t4, t5, t6, t7, t8, t9, t10⟩ := hW; go_simp; exact hK
      have HQa := HQof _ (hX4.alloc (.cells #[.int .i64 0, .slice none 0 0, .slice none 0 0, .int .i64 0, .int .i64 0, .slice none 0 0, .int .i64 0, .int .i64 0, .int .i64 0, .int .i64 0, .int .i64 0] 50))
      refine anyU_only 9 rfl (by kernel_rfl) ?_
      gi_wp2
      refine And.intro (.inr HQa.out) ?_
      refine anyU_only 10 rfl (by kernel_rfl) ?_
      gi_wp2
      refine And.intro (.inl (by kernel_rfl)) ?_
      refine anyU_done (by kernel_rfl) ?_ _
      clear HQ HQa
      go_upto_region 9 with fail
      rw [P1.out]
      obtain ⟨s0, hs0⟩ : ∃ s0, preS c (d.chain.take k) = s0 := ⟨_, rfl⟩
      rw [hs0]
      obtain ⟨W5, hW5⟩ : ∃ W5, W4.alloc (.cells #[.int .i64 y.around, .slice cay n1 ccy, .slice uay n2 ucy, .int .i64 s0, .int .i64 y.cells, .slice vay n3 vcy, .int .i64 y.init, .int .i64 y.enter, .int .i64 y.do_, .int .i64 y.exit, .int .i64 y.stack] 50) = W5 := ⟨_, rfl⟩
      obtain ⟨b5, hb5⟩ : ∃ b, W4.heap.size = b := ⟨_, rfl⟩
      have hX5 : Ex W3 W5 := by rw [← hW5]; exact hX4.alloc _
      have hB5 : Blk W5 b5 #[.int .i64 y.around, .slice cay n1 ccy, .slice uay n2 ucy, .int .i64 s0, .int .i64 y.cells, .slice vay n3 vcy, .int .i64 y.init, .int .i64 y.enter, .int .i64 y.do_, .int .i64 y.exit, .int .i64 y.stack] 50 := by rw [← hW5, ← hb5]; exact Blk.new W4 _ _
      rw [hW5, hb5]
      obtain ⟨W6, hW6⟩ : ∃ W, W5.drew = W := ⟨_, rfl⟩
      have hX56 : Ex W5 W6 := by rw [← hW6]; exact (Keeps.refl _ _).drew
      have hX6 : Ex W3 W6 := hX5.trans hX56
      have HQof : ∀ V, Ex W6 V → Hid (V.cell? ⟨b5, 3, none⟩ = some (.int .i64 s0) ∧ V.cell? ⟨b5, 1, none⟩ = some (.slice cay n1 ccy) ∧ V.cell? ⟨b3, 1, none⟩ = some (.slice (some cad) m1 cc)) := fun V hV => by
        have h1 := (hX56.trans hV).blk hB5 id
        exact Lib.hid ⟨(h1.cell 3).trans rfl, (h1.cell 1).trans rfl, (((hX6.trans hV).blk HB3.out id).cell 1).trans rfl⟩
      have HQ := HQof W6 (Keeps.refl _ _)
      have hw6 : Ex w W6 := HX1.out.trans (HX3.out.trans hX6)
      have hcl : y.chain.length ≤ k + 1 := by rw [P2.out, List.length_take]; omega
      have hkc : k + 1 ≤ d.chain.length := Hlt2.out
      have hI := Ints_any (HYc.out.ext hw6) ((RdL.take encI_len HCh.out (k + 1) hkc).ext hw6) (by omega) (by rw [List.length_take]; omega)
      rw [decide_eq_true P2.out] at hI
      have HI := Lib.hid hI; have HX6 := Lib.hid hX6; have HB6 := Lib.hid (hX56.blk hB5 id)
      have Hs0 := Lib.hid hs0
      clear hX5 hB5 hW5 hb5 hX56 hw6 hcl hkc hI hs0 r1 r2 hX4
      have e1 : IntKind.i64.wrap ((k : Int) + 1) = (k : Int) + 1 := by simp [IntKind.wrap_i64]; omega
      have e2 : (0 : Int) ≤ (k : Int) + 1 := by omega
      have e3 : ((k : Int) + 1) ≤ cc := by have := Hcc.out; omega
      have e4 : ((k : Int) + 1).toNat = k + 1 := by omega
      have e5 : max ((k : Int) + 1) 0 = (k : Int) + 1 := by omega
      refine region_U_plain (n := 9) (fun V => V.cell? ⟨b5, 3, none⟩ = some (.int .i64 s0) ∧ V.cell? ⟨b5, 1, none⟩ = some (.slice cay n1 ccy) ∧ V.cell? ⟨b3, 1, none⟩ = some (.slice (some cad) m1 cc)) 14 (by kernel_rfl) ?_
      rw [hW6]
      clear hW6 hX6
      refine anyU_quiet (a2 := ?au2_0) 0 rfl rfl rfl (by kernel_rfl) (by kernel_rfl) (by kernel_rfl) (by kernel_rfl) (by kernel_rfl) (by kernel_rfl) (fun _ _ _ _ h => h) HQ.out ?hu2_0 ?ku2_0
      case hu2_0 => intro W hW K hK; obtain ⟨q0, q1, q2⟩ := hW; go_simp; exact hK
      refine anyU_quiet (a2 := ?au2_1) 1 rfl rfl rfl (by kernel_rfl) (by kernel_rfl) (by kernel_rfl) (by kernel_rfl) (by kernel_rfl) (by kernel_rfl) (fun _ _ _ _ h => h) HQ.out ?hu2_1 ?ku2_1
      case hu2_1 => intro W hW K hK; obtain ⟨q0, q1, q2⟩ := hW; go_simp; exact hK
      refine anyU_quiet (a2 := ?au2_2) 2 rfl rfl rfl (by kernel_rfl) (by kernel_rfl) (by kernel_rfl) (by kernel_rfl) (by kernel_rfl) (by kernel_rfl) (fun _ _ _ _ h => h) HQ.out ?hu2_2 ?ku2_2
      case hu2_2 => intro W hW K hK; obtain ⟨q0, q1, q2⟩ := hW; go_simp; exact hK
      refine anyU_quiet (a2 := ?au2_3) 3 rfl rfl rfl (by kernel_rfl) (by kernel_rfl) (by kernel_rfl) (by kernel_rfl) (by kernel_rfl) (by kernel_rfl) (fun _ _ _ _ h => h) HQ.out ?hu2_3 ?ku2_3
      case hu2_3 => intro W hW K hK; obtain ⟨q0, q1, q2⟩ := hW; go_simp; exact hK
      refine anyU_quiet (a2 := ?au2_4) 4 rfl rfl rfl (by kernel_rfl) (by kernel_rfl) (by kernel_rfl) (by kernel_rfl) (by kernel_rfl) (by kernel_rfl) (fun _ _ _ _ h => h) HQ.out ?hu2_4 ?ku2_4
      case hu2_4 => intro W hW K hK; obtain ⟨q0, q1, q2⟩ := hW; go_simp; exact hK
      refine anyU_quiet (a2 := ?au2_5) 5 rfl rfl rfl (by kernel_rfl) (by kernel_rfl) (by kernel_rfl) (by kernel_rfl) (by kernel_rfl) (by kernel_rfl) (fun _ _ _ _ h => h) HQ.out ?hu2_5 ?ku2_5
      case hu2_5 => intro W hW K hK; obtain ⟨q0, q1, q2⟩ := hW; go_simp; exact hK
      refine anyU_quiet (a2 := ?au2_6) 6 rfl rfl rfl (by kernel_rfl) (by kernel_rfl) (by kernel_rfl) (by kernel_rfl) (by kernel_rfl) (by kernel_rfl) (fun _ _ _ _ h => h) HQ.out ?hu2_6 ?ku2_6
      case hu2_6 => intro W hW K hK; obtain ⟨q0, q1, q2⟩ := hW; go_simp; exact hK
      refine anyU_quiet (a2 := ?au2_7) 7 rfl rfl rfl (by kernel_rfl) (by kernel_rfl) (by kernel_rfl) (by kernel_rfl) (by kernel_rfl) (by kernel_rfl) (fun _ _ _ _ h => h) HQ.out ?hu2_7 ?ku2_7
      case hu2_7 => intro W hW K hK; obtain ⟨q0, q1, q2⟩ := hW; go_simp; exact hK
      refine anyU_quiet (a2 := ?au2_8) 8 rfl rfl rfl (by kernel_rfl) (by kernel_rfl) (by kernel_rfl) (by kernel_rfl) (by kernel_rfl) (by kernel_rfl) (fun _ _ _ _ h => h) HQ.out ?hu2_8 ?ku2_8
      case hu2_8 => intro W hW K hK; obtain ⟨q0, q1, q2⟩ := hW; go_simp; exact hK
      refine anyU_quiet (a2 := ?au2_9) 9 rfl rfl rfl (by kernel_rfl) (by kernel_rfl) (by kernel_rfl) (by kernel_rfl) (by kernel_rfl) (by kernel_rfl) (fun _ _ _ _ h => h) HQ.out ?hu2_9 ?ku2_9
      case hu2_9 => intro W hW K hK; obtain ⟨q0, q1, q2⟩ := hW; go_simp; exact hK
      refine anyU_quiet (a2 := ?au2_10) 10 rfl rfl rfl (by kernel_rfl) (by kernel_rfl) (by kernel_rfl) (by kernel_rfl) (by kernel_rfl) (by kernel_rfl) (fun _ _ _ _ h => h) HQ.out ?hu2_10 ?ku2_10
      case hu2_10 => intro W hW K hK; obtain ⟨q0, q1, q2⟩ := hW; go_simp; exact hK
      refine anyU_quiet (a2 := ?au2_11) 11 rfl rfl rfl (by kernel_rfl) (by kernel_rfl) (by kernel_rfl) (by kernel_rfl) (by kernel_rfl) (by kernel_rfl) (fun _ _ _ _ h => h) HQ.out ?hu2_11 ?ku2_11
      case hu2_11 => intro W hW K hK; obtain ⟨q0, q1, q2⟩ := hW; go_simp; exact hK
      refine anyU_only 12 rfl (by kernel_rfl) ?_
      gi_wp2_with fail
      refine (callsIn_WF HI.out).mono ?_
      rintro e w7 ⟨rfl, hx7⟩
      have HQ7 := HQof w7 hx7
      have HX7 := Lib.hid (HX6.out.trans hx7)
      have HB7 := Lib.hid (hx7.blk HB6.out id)
      clear hx7 HI HX6 HB6 HQ
      gi_wp2
      refine And.intro (.inr HQ7.out) ?_
      refine anyU_only 13 rfl (by kernel_rfl) ?_
      gi_wp2
      refine And.intro (.inr HQ7.out) ?_
      refine anyU_only 14 rfl (by kernel_rfl) ?_
      gi_wp2
      refine And.intro (.inl (by kernel_rfl)) ?_
      refine anyU_done (by kernel_rfl) ?_ _
      clear HQ7 HQof e2 e3 e4 e5
      have z4 : w7.cell? ⟨b5, 4, none⟩ = some (.int .i64 y.cells) := (HB7.out.cell 4).trans rfl
      have hsum : IntKind.i64.wrap (s0 + y.cells) = s0 + y.cells := by
        have h5 := P5.out; have h6 := P6.out; have h7 := P7.out
        rw [P1.out, Hs0.out] at h5 h7
        simp [IntKind.wrap_i64]; omega
      have hnext : preS c (d.chain.take (k + 1)) = s0 + y.cells := by
        have hx : d.chain[k]? = some (d.chain.getD k 0) := by
          rw [List.getD_eq_getElem?_getD, List.getElem?_eq_getElem Hlt2.out]; rfl
        rw [List.take_add_one, hx]
        show preS c (d.chain.take k ++ [d.chain.getD k 0]) = _
        rw [preS_snoc, Hs0.out, HDe2.out]
      have HNext := Lib.hid hnext
      clear hnext
      go_wp2_with fail
      go_roundw
      case rel => exact ⟨k + 1, by omega, by rw [HNext.out], by go_num, HX7⟩
      case measure => simp [intOf]; omega
    case neg =>
      have hkm : k = m1 := by omega
      subst hkm
      have HXr := Lib.hid (HX3.out.trans HX.out)
      have e1 : IntKind.i64.wrap ((m0 : Int) + (n0 : Int)) = (m0 : Int) + (n0 : Int) := by have := Hm0.out; have := Hn0.out; simp [IntKind.wrap_i64]; omega
      have hcall := fun V hV L => HOr.out HSm.out V hV (a0 : Nat) L
      have HCall := Lib.hid hcall
      clear hcall hlt hk
      obtain ⟨s0, hs0⟩ : ∃ s0, preS c (d.chain.take k) = s0 := ⟨_, rfl⟩
      rw [hs0]
      clear hs0
      go_wp2_with fail
      refine (HCall.out _ HXr.out _).mono ?_
      intro e w4 he
      have he := origR_of HG.out (by rw [Hcn.out]; exact Ha0.out) (L := m0 + n0) (by rw [Int.natCast_add]; exact he)
      clear x0 x1 x2 x3 x4 e1
      cases ho : origL c (m0 + n0) (a0 : Nat) with
      | none =>
        rw [ho] at he
        obtain ⟨rfl, hx4⟩ := he
        have HX4 := Lib.hid (HXr.out.trans hx4)
        clear hx4 ho
        obtain ⟨x0, x1, x2, x3, x4⟩ := (HF0 w4 HX4.out).out
        go_wp2_with fail
        refine (HCall.out _ HX4.out _).mono ?_
        intro e w5 he
        have he := origR_of HG.out (by rw [Hcn.out]; exact Ha0.out) (L := m0) he
        clear x0 x1 x2 x3 x4
        have hee : ∃ v z, e = .returned (.tuple #[v, .int .i64 z]) ∧ Ex w4 w5 := by
          cases ho2 : origL c m0 (a0 : Nat) with
          | none => rw [ho2] at he; exact ⟨_, _, he⟩
          | some l => rw [ho2] at he; obtain ⟨v, h1, -, h3⟩ := he; exact ⟨_, _, h1, h3⟩
        clear he
        obtain ⟨v5, z5, rfl, hx5⟩ := hee
        have HX5 := Lib.hid (HX4.out.trans hx5)
        clear hx5
        go_wp2_with fail
        refine (HSan _ (HX1.out.trans HX5.out)).out.mono ?_
        rintro e ws ⟨rfl, hxs⟩
        have HXs := Lib.hid ((HX1.out.trans HX5.out).trans hxs)
        clear hxs
        go_wp2_with fail
        go_ret
        exact ⟨rfl, HXs.out⟩
      | some l =>
        rw [ho] at he
        obtain ⟨va, rfl, hoa, hx4⟩ := he
        obtain ⟨l1, l2, hl1, hl2, hl12, hup⟩ := orig_split c HGood.out m0 n0 a0 l (by rw [Hcn.out]; exact Ha0.out) ho
        have HX4 := Lib.hid (HXr.out.trans hx4)
        have hra : RdL encI w4 va l := by have h9 := hoa; unfold OwnI at h9; rw [← encI_flat] at h9; exact own_rd encI_len h9
        have HRa := Lib.hid hra; have Hl1 := Lib.hid hl1; have Hl2 := Lib.hid hl2; have Hl12 := Lib.hid hl12; have Hup := Lib.hid hup
        obtain ⟨aa, la2, ca2, hva⟩ : ∃ a n c, va = .slice a n c := by obtain ⟨a, c, h, -⟩ := hra; exact ⟨_, _, _, h⟩
        subst hva
        clear hx4 ho hoa hra hl1 hl2 hl12 hup
        obtain ⟨x0, x1, x2, x3, x4⟩ := (HF0 w4 HX4.out).out
        go_wp2_with fail
        refine (HCall.out _ HX4.out _).mono ?_
        intro e w5 he
        have he := origR_of HG.out (by rw [Hcn.out]; exact Ha0.out) (L := m0) he
        rw [Hl1.out] at he
        obtain ⟨vb, rfl, hob, hx5⟩ := he
        have hrb : RdL encI w5 vb l1 := by have h9 := hob; unfold OwnI at h9; rw [← encI_flat] at h9; exact own_rd encI_len h9
        obtain ⟨ab, lb2, cb2, hvb⟩ : ∃ a n c, vb = .slice a n c := by obtain ⟨a, c, h, -⟩ := hrb; exact ⟨_, _, _, h⟩
        subst hvb
        have HX5 := Lib.hid (HX4.out.trans hx5)
        have HRa5 := Lib.hid (HRa.out.ext hx5); have HRb := Lib.hid hrb
        clear hx5 hob hrb x0 x1 x2 x3 x4 HRa
        go_wp2_with fail
        clear y1
        go_loopw [1, 17] (fun v s V => ∃ j : Nat, j ≤ m0 ∧ v = .int .i64 (upL c j (a0 : Nat)) ∧ s = .int .i64 j ∧ Hid (Ex w5 V)) (fun v s V => m0 - (intOf s).toNat)
        case atStart => exact ⟨0, Nat.zero_le _, rfl, rfl, Lib.hid (Keeps.refl _ _)⟩
        case round =>
          obtain ⟨j, hj, rfl, rfl, HXj⟩ := hrel
          have HXjw := Lib.hid (HX5.out.trans HXj.out)
          obtain ⟨x0, x1, x2, x3, x4⟩ := (HF0 wr HXjw.out).out
          have hupj := Hup.out j hj
          obtain ⟨aj, haj⟩ : ∃ a : Nat, upL c j (a0 : Nat) = a := ⟨(upL c j (a0 : Nat)).toNat, by omega⟩
          rw [haj]
          have HAj := Lib.hid haj
          rw [haj] at hupj
          have hjn : aj < nd := by have := hupj.2; rw [Hcn.out] at this; omega
          clear haj hupj
          by_cases hlt : j < m0
          case pos =>
            obtain ⟨x, hx⟩ : ∃ x, xs[aj]? = some x := ⟨_, List.getElem?_eq_getElem (by rw [Hnd.out]; exact hjn)⟩
            have hxd : c.descs[aj]? = some x.d := by rw [← H.out.eq, List.getElem?_map, hx]; rfl
            have hde : c.de (aj : Nat) = x.d := by unfold Co.de; rw [List.getD_eq_getElem?_getD, show (((aj : Nat) : Int).toNat) = aj from rfl, hxd]; rfl
            obtain ⟨A3, hA3⟩ : ∃ A, dad.add (aj * 11) = A := ⟨_, rfl⟩
            obtain ⟨e0, -⟩ := (H.out.ds.ext (HX1.out.trans HXjw.out)).deCells hx hA3
            have hnx : upL c (j + 1) (a0 : Nat) = x.d.around := by rw [upL_succ, HAj.out, hde]
            have r1 : ((j : Int) < m0) := by omega
            have HNx := Lib.hid hnx
            clear hx hxd hde hnx
            go_wp2_with fail
            go_roundw
            case rel => exact ⟨j + 1, by omega, by rw [HNx.out], by go_num, HXj⟩
            case measure => show m0 - ((j : Int) + 1).toNat < m0 - ((j : Nat) : Int).toNat; omega
          case neg =>
            have hjm : j = m0 := by omega
            subst hjm
            go_wp2_with fail
            refine (HOr.out HSm.out _ HXjw.out (aj : Nat) _).mono ?_
            intro e w6 he
            have he := origR_of HG.out (by rw [Hcn.out]; exact hjn) (L := n0) he
            rw [← HAj.out, Hl2.out] at he
            obtain ⟨vc2, rfl, hoc, hx6⟩ := he
            have hrc : RdL encI w6 vc2 l2 := by have h9 := hoc; unfold OwnI at h9; rw [← encI_flat] at h9; exact own_rd encI_len h9
            obtain ⟨ac, lc2, cc2, hvc⟩ : ∃ a n c, vc2 = .slice a n c := by obtain ⟨a, c, h, -⟩ := hrc; exact ⟨_, _, _, h⟩
            subst hvc
            have hx56 := HXj.out.trans hx6
            have HX6 := Lib.hid (HX5.out.trans hx56)
            have HRa6 := Lib.hid (HRa5.out.ext hx56); have HRb6 := Lib.hid (HRb.out.ext hx56); have HRc := Lib.hid hrc
            clear hx6 hoc hrc hx56 x0 x1 x2 x3 x4
            go_wp2_with fail
            refine (HSan _ (HX1.out.trans HX6.out)).out.mono ?_
            rintro e w7 ⟨rfl, hx7⟩
            have HX7 := Lib.hid (HX6.out.trans hx7)
            obtain ⟨W8, hW8⟩ : ∃ W8, w7.alloc (.cells #[] 3) = W8 := ⟨_, rfl⟩
            obtain ⟨b8, hb8⟩ : ∃ b, w7.heap.size = b := ⟨_, rfl⟩
            have hx8 : Ex w7 W8 := by rw [← hW8]; exact (Keeps.refl _ _).alloc _
            have ho8 : OwnI W8 b8 (.slice (some ⟨b8, 0, none⟩) 0 0) [] := by
              rw [← hW8, ← hb8]; exact World.ownsRow_made w7 #[] 0 (Nat.le_refl _) (by decide) rfl
            have HX78 := Lib.hid hx8; have HO8 := Lib.hid ho8; have HW8 := Lib.hid hW8; have Hb8 := Lib.hid hb8
            have HRa7 := Lib.hid (HRa6.out.ext hx7); have HRb7 := Lib.hid (HRb6.out.ext hx7); have HRc7 := Lib.hid (HRc.out.ext hx7)
            have Hn1 := Lib.hid (orig_len c _ _ _ Hl1.out); have Hn2 := Lib.hid (orig_len c _ _ _ Hl2.out)
            clear hx7 hx8 ho8 hW8 hb8 HRa6 HRb6 HRc
            go_wp2_with (at_builtin; refine (fun h => h trivial : (True → _) → _) ?_)
            intro _
            rw [HW8.out]
            try rw [Hb8.out]
            refine wpList_unguard (by go_simp) ?_
            refine wpList_appI rfl _ _ rfl b8 _ _ rfl HO8.out _ l1 rfl (HRb7.out.ext HX78.out) (by have := Hn1.out; have := Hm0.out; rw [Hn1.out]; simp; omega) (by rw [← Hb8.out]; exact HX78.out.size) ?_
            intro v9 w9 ho9 hx9 _
            have HX79 := Lib.hid (HX78.out.ex HO8.out (by rw [Hb8.out]; exact Nat.le_refl _) hx9)
            obtain ⟨a9, n9, c9, hv9⟩ : ∃ a n c, v9 = .slice a n c := by obtain ⟨a, c, h9⟩ := own_slice ho9; exact ⟨_, _, _, h9⟩
            subst hv9
            have HO9 := Lib.hid ho9
            clear ho9 hx9
            go_wp2_with (at_builtin; refine (fun h => h trivial : (True → _) → _) ?_)
            intro _
            refine wpList_unguard (by go_simp) ?_
            refine wpList_appI rfl _ _ rfl b8 _ _ rfl HO9.out _ l2 rfl (HRc7.out.ext HX79.out) (by have := Hn1.out; have := Hn2.out; have := Hm0.out; have := Hn0.out; rw [List.length_append, Hn1.out, Hn2.out]; simp; omega) (by rw [← Hb8.out]; exact HX79.out.size) ?_
            intro v10 w10 ho10 hx10 _
            have HX710 := Lib.hid (HX79.out.ex HO9.out (by rw [Hb8.out]; exact Nat.le_refl _) hx10)
            obtain ⟨a10, n10, c10, hv10⟩ : ∃ a n c, v10 = .slice a n c := by obtain ⟨a, c, h9⟩ := own_slice ho10; exact ⟨_, _, _, h9⟩
            subst hv10
            have hr10 : RdL encI w10 (.slice a10 n10 c10) ([] ++ l1 ++ l2) := by have h9 := ho10; unfold OwnI at h9; rw [← encI_flat] at h9; exact own_rd encI_len h9
            have hI := Ints_any (HRa7.out.ext HX710.out) hr10 (by rw [Hl12.out, List.length_append, Hn1.out, Hn2.out]; have := Hm0.out; have := Hn0.out; omega) (by rw [List.length_append, List.length_append, Hn1.out, Hn2.out]; have := Hm0.out; have := Hn0.out; simp; omega)
            rw [decide_eq_true (by rw [Hl12.out]; rfl)] at hI
            have HI := Lib.hid hI
            clear ho10 hx10 hr10 hI
            go_wp2_with fail
            refine HI.out.mono ?_
            rintro e w11 ⟨rfl, hx11⟩
            have HX11 := Lib.hid ((HX1.out.trans HX7.out).trans (HX710.out.trans hx11))
            clear hx11
            go_wp2_with fail
            go_ret
            exact ⟨rfl, HX11.out⟩
end Go.Proofs.YtlaepkmnbbgbcaaGreatDoor
