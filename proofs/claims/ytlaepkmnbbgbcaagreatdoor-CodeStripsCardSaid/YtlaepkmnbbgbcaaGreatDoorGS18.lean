/- CodeMarks returns true. CodeStrips returns true. CodeStrips: the card: it returns true for every input, and the input reads as it did. (Written by wip/tools/genClaim.py.) -/
import Derived.Test.YtlaepkmnbbgbcaaGreatDoorGS12
import Derived.Test.YtlaepkmnbbgbcaaGreatDoorGS14
import Derived.Test.YtlaepkmnbbgbcaaGreatDoorGS17
import Derived.BigRegion
import Derived.Test.YtlaepkmnbbgbcaaGreatDoorGS10
import Derived.Test.YtlaepkmnbbgbcaaGreatDoorGS11
import Derived.Test.YtlaepkmnbbgbcaaGreatDoorGS1
import Derived.Test.YtlaepkmnbbgbcaaGreatDoorTie
/- CodeMarks returns true. -/
namespace Go.Proofs.YtlaepkmnbbgbcaaGreatDoor
open Go.RowKit Go.Instr Go.Sort
set_option linter.unusedVariables false
set_option linter.unusedSimpArgs false
attribute [local go_sem] Oper.semAt_some

theorem strip_small {c : Co} (h : smallB c = true) : smallB (stripC c) = true := by
  unfold smallB smallD at h ⊢
  simp only [Bool.and_eq_true, decide_eq_true_eq, List.all_eq_true] at h ⊢
  obtain ⟨⟨⟨⟨⟨⟨h1, h2⟩, h3⟩, h4⟩, h5⟩, h6⟩, h7⟩ := h
  refine ⟨⟨⟨⟨⟨⟨?_, ?_⟩, ?_⟩, h4⟩, h5⟩, ?_⟩, h7⟩
  · rw [strip_len]; exact Nat.le_trans (List.length_filter_le _ _) h1
  · rw [strip_descs]; exact h2
  · show (c.labels.map _).length ≤ _; rw [List.length_map]; exact h3
  · intro d hd
    obtain ⟨x, hx, rfl⟩ := List.mem_map.1 (show d ∈ c.descs.map (stripD c) from hd)
    exact h6 x hx
theorem strip_fine {c : Co} (hs : smallB c = true) (hg : Good c) (hl : lastOp c ≠ 53) : fineB (stripC c) = true := by
  unfold fineB
  rw [strip_small hs, (good_iff (stripC c)).2 (strip_good hg hl)]; rfl
theorem strip_last {c : Co} (hg : Good c) (hl : lastOp c ≠ 53) : lastOp (stripC c) ≠ 53 := nomark_last (strip_good hg hl) (strip_nomark c)
theorem strip_twice {c : Co} (hg : Good c) (hl : lastOp c ≠ 53) : stripC (stripC c) = stripC c := nomark_strip (strip_good hg hl) (strip_nomark c)
theorem strip_all {c : Co} (hg : Good c) (h : nmC c = c.instrs.length) : stripC c = c := by
  refine nomark_strip hg fun x hx => ?_
  have : c.instrs.filter notMark = c.instrs := (List.filter_sublist (l := c.instrs)).eq_of_length h
  rw [← this] at hx
  exact (List.mem_filter.1 hx).2
theorem tn_end (c : Co) : tnC c c.instrs.length = nmC c := by unfold tnC nmC; rw [List.take_length]
theorem last_at {c : Co} (h : 0 < c.instrs.length) : ∃ x, c.instrs[c.instrs.length - 1]? = some x ∧ lastOp c = x.op := by
  obtain ⟨y, hy⟩ : ∃ y, c.instrs[c.instrs.length - 1]? = some y := ⟨_, List.getElem?_eq_getElem (by omega)⟩
  exact ⟨y, hy, by unfold lastOp; rw [List.getD_eq_getElem?_getD, hy]; rfl⟩
theorem RdCo.cast {w : World} {a b d e f : Value} {c c' : Co} {xs : List DeV} (h : RdCo w a b d e f c xs) (he : c = c') : RdCo w a b d e f c' xs := he ▸ h
set_option maxRecDepth 100000 in
set_option maxHeartbeats 8000000 in
theorem CodeMarks_any {w : World} (hmx : Mx w) (htb : Tab w) {dv lv tv rv iv : Value} {c : Co} {xs : List DeV} (h : RdCo w dv lv tv rv iv c xs) :
    Calls Tryz.prog 11 #[codeV dv lv tv rv iv] w fun e w' => e = .returned (.bool true) ∧ Ex w w' := by
  obtain ⟨W1, hW1⟩ : ∃ W1, w.alloc (.cells #[dv, lv, tv, rv, iv] 28) = W1 := ⟨_, rfl⟩
  obtain ⟨b0, hb0⟩ : ∃ b0, w.heap.size = b0 := ⟨_, rfl⟩
  have hX1 : Ex w W1 := by rw [← hW1]; exact (Keeps.refl _ w).alloc _
  have hB0 : Blk W1 b0 #[dv, lv, tv, rv, iv] 28 := by rw [← hW1, ← hb0]; exact Blk.new w _ _
  have hf := fine_any (h.ext hX1)
  have HSan : ∀ V, Ex w V → Hid (Calls Tryz.prog 13 #[] V fun e w' => e = .returned (.bool true) ∧ Ex V w') := fun V hV => Lib.hid (sanity_any (hmx.ext hV) (htb.ext hV))
  have HSt : Hid (smallB c = true → ∀ V, Ex W1 V → Calls Tryz.prog 14 #[codeV dv lv tv rv iv] V (StripR V c)) := Lib.hid (fun hb V hV => Strip_any ((h.ext hX1).ext hV) (small_big hb))
  have HRe : Hid (smallB c = true → ∀ V, Ex W1 V → Calls Tryz.prog 38 #[codeV dv lv tv rv iv] V (ReachR V c)) := Lib.hid (fun hb V hV => Reached_any ((h.ext hX1).ext hV) (small_big hb))
  have HRd : Hid (RdCo W1 dv lv tv rv iv c xs) := Lib.hid (h.ext hX1)
  obtain ⟨da, dc, rfl, -⟩ := id h.ds
  obtain ⟨la, lc, rfl, -⟩ := id h.ls
  obtain ⟨ta, tc, rfl, -⟩ := id h.ts
  obtain ⟨ra, rc, rfl, -⟩ := id h.rs
  obtain ⟨ia, ic, rfl, -, hi1, -⟩ := id h.is
  obtain ⟨ni, hni⟩ : ∃ n, c.instrs.length = n := ⟨_, rfl⟩
  rw [hni] at hf hB0 hW1 HSt HRe HRd ⊢
  have HF0 : ∀ V, Ex W1 V → Hid (V.cell? ⟨b0, 0, none⟩ = some (.slice da xs.length dc) ∧ V.cell? ⟨b0, 1, none⟩ = some (.slice la c.labels.length lc) ∧ V.cell? ⟨b0, 2, none⟩ = some (.slice ta c.texts.length tc) ∧ V.cell? ⟨b0, 3, none⟩ = some (.slice ra c.reals.length rc) ∧ V.cell? ⟨b0, 4, none⟩ = some (.slice ia ni ic)) := fun V hV => Lib.hid
    ⟨((hV.blk hB0 id).cell 0).trans rfl, ((hV.blk hB0 id).cell 1).trans rfl, ((hV.blk hB0 id).cell 2).trans rfl, ((hV.blk hB0 id).cell 3).trans rfl, ((hV.blk hB0 id).cell 4).trans rfl⟩
  unfold codeV at hf HSt HRe ⊢
  have HX1 := Lib.hid hX1; have HW1 := Lib.hid hW1; have Hb0 := Lib.hid hb0; have HFn := Lib.hid hf; have Hni := Lib.hid hni; have Hi1 := Lib.hid hi1
  clear h hX1 hB0 hW1 hb0 hf hni hmx htb hi1
  obtain ⟨x0, x1, x2, x3, x4⟩ := (HF0 W1 (Keeps.refl _ _)).out
  go_enter Tryz.func11, Tryz.ntmps11
  go_upto_region 1 with fail
  rw [HW1.out]
  try rw [Hb0.out]
  go_wp2_with fail
  refine HFn.out.mono ?_
  rintro e w2 ⟨rfl, hx2⟩
  have HX2 := Lib.hid hx2
  clear hx2 x0 x1 x2 x3 x4
  obtain ⟨x0, x1, x2, x3, x4⟩ := (HF0 w2 HX2.out).out
  cases hfb : fineB c with
  | false =>
    clear hfb
    go_wp2_with fail
    refine (HSan _ (HX1.out.trans HX2.out)).out.mono ?_
    rintro e ws ⟨rfl, hxs⟩
    have HXs := Lib.hid ((HX1.out.trans HX2.out).trans hxs)
    clear hxs
    go_wp2_with fail
    go_ret
    exact ⟨rfl, HXs.out⟩
  | true =>
  have hfb2 := hfb
  unfold fineB at hfb2
  simp only [Bool.and_eq_true, decide_eq_true_eq] at hfb2
  have HSm := Lib.hid hfb2.1
  have HG := Lib.hid hfb2.2
  have HGood := Lib.hid ((good_iff c).1 hfb2.2)
  have hn1 : ni ≤ 20000 := by have := HGood.out.i2; rw [Hni.out] at this; exact this
  have hn0 : 1 ≤ ni := by have := HGood.out.i1; rw [Hni.out] at this; exact this
  clear hfb2 hfb
  obtain ⟨ia, rfl⟩ : ∃ ad, ia = some ad := by
    cases ia with
    | none => have := Hi1.out rfl; have h2 := Hni.out; rw [this] at h2; simp at h2; omega
    | some ad => exact ⟨ad, rfl⟩
  clear Hi1
  go_wp2_with fail
  refine (HSt.out HSm.out w2 HX2.out).mono ?_
  intro e w3 he
  unfold StripR at he
  rw [if_pos HG.out] at he
  by_cases hl : lastOp c = 53
  · rw [if_pos hl] at he
    obtain ⟨rfl, hx3⟩ := he
    have HX3 := Lib.hid (HX2.out.trans hx3)
    have HX3d : Hid (Ex w2 w3) := Lib.hid hx3
    obtain ⟨x, hx, hop⟩ := last_at (c := c) (by rw [Hni.out]; omega)
    rw [Hni.out] at hx
    rw [hl] at hop
    unfold zeroV codeV
    clear hx3 x0 x1 x2 x3 x4
    obtain ⟨W4, hW4⟩ : ∃ W4, w3.alloc (.cells #[.slice none 0 0, .slice none 0 0, .slice none 0 0, .slice none 0 0, .slice none 0 0] 28) = W4 := ⟨_, rfl⟩
    have HX4 : Hid (Ex W1 W4) := Lib.hid (by rw [← hW4]; exact HX3.out.alloc _)
    have HW4 := Lib.hid hW4
    clear hW4
    obtain ⟨x0, x1, x2, x3, x4⟩ := (HF0 W4 HX4.out).out
    go_upto_region 5 with fail
    rw [HW4.out]
    go_wp2_with fail
    refine (HSan _ (HX1.out.trans HX4.out)).out.mono ?_
    rintro e ws ⟨rfl, hxs⟩
    have HX5 := Lib.hid (HX4.out.trans hxs)
    clear hxs x0 x1 x2 x3 x4
    obtain ⟨x0, x1, x2, x3, x4⟩ := (HF0 ws HX5.out).out
    obtain ⟨A, hA⟩ : ∃ A, ia.add ((ni - 1) * 3) = A := ⟨_, rfl⟩
    obtain ⟨z0, z1, z2⟩ := (HRd.out.is.ext HX5.out).insCells hx hA
    rw [← hop] at z0
    have s1 : IntKind.i64.wrap ((ni : Int) - 1) = (ni - 1 : Nat) := by simp [IntKind.wrap_i64]; omega
    have s2 : ((ni - 1 : Nat) : Int) < ni := by omega
    go_wp2_with fail
    go_ret
    exact ⟨rfl, HX1.out.trans HX5.out⟩
  · rw [if_neg hl] at he
    obtain ⟨dv2, lv2, tv2, rv2, iv2, ys, rfl, hrd, hx3⟩ := he
    have Hl := Lib.hid hl
    have HSm2 := Lib.hid (strip_small HSm.out)
    have HGd2 := Lib.hid (strip_good HGood.out hl)
    have HG2 := Lib.hid ((good_iff (stripC c)).2 (strip_good HGood.out hl))
    have HRd2 := Lib.hid hrd
    have HX3 := Lib.hid (HX2.out.trans hx3)
    obtain ⟨da2, dc2, rfl, -⟩ := id hrd.ds
    obtain ⟨la2, lc2, rfl, -⟩ := id hrd.ls
    obtain ⟨ta2, tc2, rfl, -⟩ := id hrd.ts
    obtain ⟨ra2, rc2, rfl, -⟩ := id hrd.rs
    obtain ⟨ia2, ic2, rfl, -, hi2, -⟩ := id hrd.is
    obtain ⟨nd, hnd⟩ : ∃ n, (stripC c).instrs.length = n := ⟨_, rfl⟩
    rw [hnd] at HRd2 ⊢
    have hnd1 : 1 ≤ nd := by have := HGd2.out.i1; rw [hnd] at this; exact this
    have hnd2 : nd ≤ 20000 := by have := HGd2.out.i2; rw [hnd] at this; exact this
    obtain ⟨ia2, rfl⟩ : ∃ ad, ia2 = some ad := by
      cases ia2 with
      | none => have := hi2 rfl; have h2 := hnd; rw [this] at h2; simp at h2; omega
      | some ad => exact ⟨ad, rfl⟩
    have Hnd := Lib.hid hnd
    clear hrd hx3 hi2 hnd hl x0 x1 x2 x3 x4
    have HStr2 : Hid (∀ V, Ex w3 V → Calls Tryz.prog 14 #[.agg #[.slice da2 ys.length dc2, .slice la2 (stripC c).labels.length lc2, .slice ta2 (stripC c).texts.length tc2, .slice ra2 (stripC c).reals.length rc2, .slice (some ia2) nd ic2]] V (StripR V (stripC c))) := Lib.hid (fun V hV => Strip_any (HRd2.out.ext hV) (small_big HSm2.out))
    have HRe2 : Hid (∀ V, Ex w3 V → Calls Tryz.prog 38 #[.agg #[.slice da2 ys.length dc2, .slice la2 (stripC c).labels.length lc2, .slice ta2 (stripC c).texts.length tc2, .slice ra2 (stripC c).reals.length rc2, .slice (some ia2) nd ic2]] V (ReachR V (stripC c))) := Lib.hid (fun V hV => Reached_any (HRd2.out.ext hV) (small_big HSm2.out))
    have HFn2 : Hid (∀ V, Ex w3 V → Calls Tryz.prog 22 #[.agg #[.slice da2 ys.length dc2, .slice la2 (stripC c).labels.length lc2, .slice ta2 (stripC c).texts.length tc2, .slice ra2 (stripC c).reals.length rc2, .slice (some ia2) nd ic2]] V fun e w' => e = .returned (.bool (fineB (stripC c))) ∧ Ex V w') := Lib.hid (fun V hV => fine_any (HRd2.out.ext hV))
    obtain ⟨b3, hb3⟩ : ∃ b, w3.heap.size = b := ⟨_, rfl⟩
    obtain ⟨W4, hW4⟩ : ∃ W4, w3.alloc (.cells #[.slice da2 ys.length dc2, .slice la2 (stripC c).labels.length lc2, .slice ta2 (stripC c).texts.length tc2, .slice ra2 (stripC c).reals.length rc2, .slice (some ia2) nd ic2] 28) = W4 := ⟨_, rfl⟩
    have HX34 : Hid (Ex w3 W4) := Lib.hid (by rw [← hW4]; exact (Keeps.refl _ w3).alloc _)
    have hB3 : Blk W4 b3 #[.slice da2 ys.length dc2, .slice la2 (stripC c).labels.length lc2, .slice ta2 (stripC c).texts.length tc2, .slice ra2 (stripC c).reals.length rc2, .slice (some ia2) nd ic2] 28 := by rw [← hW4, ← hb3]; exact Blk.new w3 _ _
    have HX4 := Lib.hid (HX3.out.trans HX34.out)
    have HF3 : ∀ V, Ex W4 V → Hid (V.cell? ⟨b3, 0, none⟩ = some (.slice da2 ys.length dc2) ∧ V.cell? ⟨b3, 1, none⟩ = some (.slice la2 (stripC c).labels.length lc2) ∧ V.cell? ⟨b3, 2, none⟩ = some (.slice ta2 (stripC c).texts.length tc2) ∧ V.cell? ⟨b3, 3, none⟩ = some (.slice ra2 (stripC c).reals.length rc2) ∧ V.cell? ⟨b3, 4, none⟩ = some (.slice (some ia2) nd ic2)) := fun V hV => Lib.hid
      ⟨((hV.blk hB3 id).cell 0).trans rfl, ((hV.blk hB3 id).cell 1).trans rfl, ((hV.blk hB3 id).cell 2).trans rfl, ((hV.blk hB3 id).cell 3).trans rfl, ((hV.blk hB3 id).cell 4).trans rfl⟩
    have HW4 := Lib.hid hW4; have Hb3 := Lib.hid hb3
    clear hW4 hb3 hB3
    unfold codeV
    go_upto_region 4 with fail
    rw [HW4.out]
    try rw [Hb3.out]
    obtain ⟨y0, y1, y2, y3, y4⟩ := (HF3 W4 (Keeps.refl _ _)).out
    go_wp2_with fail
    refine (HStr2.out W4 HX34.out).mono ?_
    intro e w5 he
    unfold StripR at he
    rw [if_pos HG2.out, if_neg (strip_last HGood.out Hl.out), strip_twice HGood.out Hl.out] at he
    obtain ⟨dv5, lv5, tv5, rv5, iv5, zs, rfl, hrd5, hx5⟩ := he
    obtain ⟨da5, dc5, rfl, -⟩ := id hrd5.ds
    obtain ⟨la5, lc5, rfl, -⟩ := id hrd5.ls
    obtain ⟨ta5, tc5, rfl, -⟩ := id hrd5.ts
    obtain ⟨ra5, rc5, rfl, -⟩ := id hrd5.rs
    obtain ⟨ia5, ic5, rfl, -⟩ := id hrd5.is
    rw [Hnd.out] at hrd5 ⊢
    have HX45 := Lib.hid hx5
    have HRd5 := Lib.hid hrd5
    clear hx5 hrd5 y0 y1 y2 y3 y4
    obtain ⟨b5, hb5⟩ : ∃ b, w5.heap.size = b := ⟨_, rfl⟩
    obtain ⟨W6, hW6⟩ : ∃ W6, w5.alloc (.cells #[.slice da5 zs.length dc5, .slice la5 (stripC c).labels.length lc5, .slice ta5 (stripC c).texts.length tc5, .slice ra5 (stripC c).reals.length rc5, .slice ia5 nd ic5] 28) = W6 := ⟨_, rfl⟩
    have HX56 : Hid (Ex w5 W6) := Lib.hid (by rw [← hW6]; exact (Keeps.refl _ w5).alloc _)
    have hB5 : Blk W6 b5 #[.slice da5 zs.length dc5, .slice la5 (stripC c).labels.length lc5, .slice ta5 (stripC c).texts.length tc5, .slice ra5 (stripC c).reals.length rc5, .slice ia5 nd ic5] 28 := by rw [← hW6, ← hb5]; exact Blk.new w5 _ _
    have HX6 := Lib.hid (HX45.out.trans HX56.out)
    have HF5 : ∀ V, Ex W6 V → Hid (V.cell? ⟨b5, 0, none⟩ = some (.slice da5 zs.length dc5) ∧ V.cell? ⟨b5, 1, none⟩ = some (.slice la5 (stripC c).labels.length lc5) ∧ V.cell? ⟨b5, 2, none⟩ = some (.slice ta5 (stripC c).texts.length tc5) ∧ V.cell? ⟨b5, 3, none⟩ = some (.slice ra5 (stripC c).reals.length rc5) ∧ V.cell? ⟨b5, 4, none⟩ = some (.slice ia5 nd ic5)) := fun V hV => Lib.hid
      ⟨((hV.blk hB5 id).cell 0).trans rfl, ((hV.blk hB5 id).cell 1).trans rfl, ((hV.blk hB5 id).cell 2).trans rfl, ((hV.blk hB5 id).cell 3).trans rfl, ((hV.blk hB5 id).cell 4).trans rfl⟩
    have HSame : Hid (∀ V, Ex W6 V → Calls Tryz.prog 28 #[.agg #[.slice da5 zs.length dc5, .slice la5 (stripC c).labels.length lc5, .slice ta5 (stripC c).texts.length tc5, .slice ra5 (stripC c).reals.length rc5, .slice ia5 nd ic5], .agg #[.slice da2 ys.length dc2, .slice la2 (stripC c).labels.length lc2, .slice ta2 (stripC c).texts.length tc2, .slice ra2 (stripC c).reals.length rc2, .slice (some ia2) nd ic2]] V fun e w' => e = .returned (.bool true) ∧ Ex V w') := Lib.hid (fun V hV => Same_any (HRd5.out.ext (HX56.out.trans hV)) (HRd2.out.ext ((HX34.out.trans HX6.out).trans hV)) (small_big HSm2.out))
    have HW6 := Lib.hid hW6; have Hb5 := Lib.hid hb5
    clear hW6 hb5 hB5
    unfold codeV
    go_upto_region 7 with fail
    rw [HW6.out]
    try rw [Hb5.out]
    have HXb6 := Lib.hid (HX4.out.trans HX6.out)
    obtain ⟨x0, x1, x2, x3, x4⟩ := (HF0 W6 HXb6.out).out
    go_wp2_with fail
    refine (HRe.out HSm.out W6 HXb6.out).mono ?_
    intro e w7 he
    unfold ReachR at he
    rw [if_pos HG.out, Hni.out] at he
    obtain ⟨g, bs, rfl, -, ho7, hbs, hx7⟩ := he
    have HX7 := Lib.hid hx7; have HO7 := Lib.hid ho7; have HBs := Lib.hid hbs
    clear hx7 ho7 hbs x0 x1 x2 x3 x4
    obtain ⟨y0, y1, y2, y3, y4⟩ := (HF3 w7 (HX6.out.trans HX7.out)).out
    go_wp2_with fail
    refine (HRe2.out w7 (HX34.out.trans (HX6.out.trans HX7.out))).mono ?_
    intro e w8 he
    unfold ReachR at he
    rw [if_pos HG2.out, Hnd.out] at he
    obtain ⟨g2, qs, rfl, -, ho8, hqs, hx8⟩ := he
    have HX68 := Lib.hid (HX7.out.trans hx8); have HO7 : Hid (OwnB w8 W6.heap.size g ni bs) := Lib.hid (HO7.out.keep hx8 id); have HO8 := Lib.hid ho8; have HQs := Lib.hid hqs
    clear hx8 ho8 hqs y0 y1 y2 y3 y4
    obtain ⟨y0, y1, y2, y3, y4⟩ := (HF3 w8 (HX6.out.trans HX68.out)).out
    obtain ⟨z0, z1, z2, z3, z4⟩ := (HF5 w8 HX68.out).out
    go_wp2_with fail
    refine (HSame.out w8 HX68.out).mono ?_
    rintro e w9 ⟨rfl, hx9⟩
    have HX9 := Lib.hid (HX68.out.trans hx9); have HX89 := Lib.hid hx9
    clear hx9 y0 y1 y2 y3 y4 z0 z1 z2 z3 z4
    obtain ⟨y0, y1, y2, y3, y4⟩ := (HF3 w9 (HX6.out.trans HX9.out)).out
    have Hfin := HFn2.out w9 (HX34.out.trans (HX6.out.trans HX9.out))
    rw [strip_fine HSm.out HGood.out Hl.out] at Hfin
    have Hfin := Lib.hid Hfin
    go_wp2_with fail
    refine Hfin.out.mono ?_
    rintro e wa ⟨rfl, hxa⟩
    have HX8a := Lib.hid (HX89.out.trans hxa)
    have HXa := Lib.hid (HX68.out.trans HX8a.out)
    clear hxa y0 y1 y2 y3 y4 Hfin HStr2 HRe2 HFn2 HSame HF5
    have HnM : Hid (nmC c = nd) := Lib.hid (by rw [← Hnd.out, strip_len])
    have HTE : Hid (tnC c ni = nd) := Lib.hid (by rw [← HnM.out, ← tn_end, Hni.out])
    have HXa0 := Lib.hid (HXb6.out.trans HXa.out)
    have HXa3 := Lib.hid (HX6.out.trans HXa.out)
    go_wp2_with fail
    go_loopw [11, 12] (fun t s wr => ∃ i : Nat, i ≤ ni ∧ t = .int .i64 (tnC c i) ∧ s = .int .i64 i ∧ Hid (Ex wa wr)) (fun t s wr => ni - (intOf s).toNat)
    case atStart => exact ⟨0, Nat.zero_le _, rfl, rfl, Lib.hid (Keeps.refl _ _)⟩
    case round =>
      obtain ⟨i, hi, rfl, rfl, HX⟩ := hrel
      obtain ⟨x0, x1, x2, x3, x4⟩ := (HF0 wr (HXa0.out.trans HX.out)).out
      obtain ⟨y0, y1, y2, y3, y4⟩ := (HF3 wr (HXa3.out.trans HX.out)).out
      by_cases hlt : i < ni
      case pos =>
        obtain ⟨x, hx⟩ : ∃ x, c.instrs[i]? = some x := ⟨_, List.getElem?_eq_getElem (by rw [Hni.out]; exact hlt)⟩
        obtain ⟨A, hA⟩ : ∃ A, ia.add (i * 3) = A := ⟨_, rfl⟩
        obtain ⟨z0, z1, z2⟩ := (HRd.out.is.ext (HXa0.out.trans HX.out)).insCells hx hA
        have hts := tn_succ hx
        have s1 : ((i : Int) < ni) := by omega
        cases hm : notMark x with
        | false =>
          have hop : x.op = 53 := by unfold notMark at hm; simpa using hm
          rw [hm] at hts
          rw [hop] at z0
          have HTs : Hid (tnC c (i + 1) = tnC c i) := Lib.hid hts
          clear hts hm hop hx
          go_wp2_with fail
          go_roundw
          case rel => exact ⟨i + 1, by omega, by rw [HTs.out], by go_num, HX⟩
          case measure => simp [intOf]; omega
        | true =>
          have hop : x.op ≠ 53 := by unfold notMark at hm; simpa using hm
          rw [hm] at hts
          have hsa := strip_at hx hm
          obtain ⟨k, hk⟩ : ∃ k, tnC c i = k := ⟨_, rfl⟩
          rw [hk] at hts hsa ⊢
          have hkd : k < nd := by have := (List.getElem?_eq_some_iff.1 hsa).1; rw [Hnd.out] at this; exact this
          obtain ⟨B, hB⟩ : ∃ B, ia2.add (k * 3) = B := ⟨_, rfl⟩
          obtain ⟨v0, v1, v2⟩ := (HRd2.out.is.ext ((HX34.out.trans HXa3.out).trans HX.out)).insCells hsa hB
          have ho : (moveI c x).op = x.op := by unfold moveI; split <;> rfl
          have hb2 : (moveI c x).b = x.b := by unfold moveI; split <;> rfl
          rw [ho] at v0
          rw [hb2] at v2
          obtain ⟨rv, hrv⟩ : ∃ b, bs[i]? = some b := ⟨_, List.getElem?_eq_getElem (by rw [HO7.out.blk.2]; exact hlt)⟩
          obtain ⟨qv, hqv⟩ : ∃ b, qs[k]? = some b := ⟨_, List.getElem?_eq_getElem (by rw [HO8.out.blk.2]; exact hkd)⟩
          have hrq : rv = true → qv = true := fun e => by
            rw [e] at hrv
            have := strip_rch HGood.out Hl.out ((HBs.out i).1 hrv)
            rw [hk] at this
            have := (HQs.out k).2 this
            rw [hqv] at this; injection this
          have hz1 := (HO7.out.keep (HX8a.out.trans HX.out) id).at hrv
          have hz2 := (HO8.out.keep (HX8a.out.trans HX.out) id).at hqv
          have s2 : ¬ ((nd : Int) ≤ (k : Int)) := by omega
          have s2b : ¬ (nd ≤ k) := by omega
          have s3 : ((k : Int) < nd) := by omega
          have HTs : Hid (tnC c (i + 1) = k + 1) := Lib.hid (by simpa using hts)
          have HXd : Hid (Ex wa wr.drew) := Lib.hid HX.out.drew
          clear hts hm hx hsa ho hb2 hrv hqv hk
          cases rv with
          | true =>
            have hq := hrq rfl
            subst hq
            clear hrq
            go_upto_region 16 with fail
            go_big_region
            go_wp2_with fail
            go_roundw
            case rel => exact ⟨i + 1, by omega, by rw [HTs.out]; go_num, by go_num, HXd⟩
            case measure => simp [intOf]; omega
          | false =>
            clear hrq
            go_upto_region 16 with fail
            go_big_region
            go_wp2_with fail
            go_roundw
            case rel => exact ⟨i + 1, by omega, by rw [HTs.out]; go_num, by go_num, HXd⟩
            case measure => simp [intOf]; omega
      case neg =>
        have hin : i = ni := by omega
        subst hin
        rw [HTE.out]
        clear hi hlt y0 y1 y2 y3 y4
        go_wp2_with fail
        clear x0 x1 x2 x3 x4
        refine (HSan _ (HX1.out.trans (HXa0.out.trans HX.out))).out.mono ?_
        rintro e ws ⟨rfl, hxs⟩
        have HXs := Lib.hid (HX.out.trans hxs)
        clear hxs
        obtain ⟨x0, x1, x2, x3, x4⟩ := (HF0 ws (HXa0.out.trans HXs.out)).out
        obtain ⟨y0, y1, y2, y3, y4⟩ := (HF3 ws (HXa3.out.trans HXs.out)).out
        by_cases hnn : nd = i
        case neg =>
          have s1 : ¬ ((nd : Int) = (i : Int)) := by omega
          go_wp2_with fail
          go_ret
          exact ⟨rfl, HX1.out.trans (HXa0.out.trans HXs.out)⟩
        case pos =>
          have he := strip_all HGood.out (by rw [HnM.out, Hni.out, hnn])
          have HSm3 := Lib.hid (Same_any (HRd.out.ext (HXa0.out.trans HXs.out)) ((HRd2.out.ext ((HX34.out.trans HXa3.out).trans HXs.out)).cast he) (small_big HSm.out))
          clear he
          subst hnn
          go_wp2_with fail
          refine HSm3.out.mono ?_
          rintro e wz ⟨rfl, hxz⟩
          have HXz := Lib.hid (HXs.out.trans hxz)
          clear hxz
          go_wp2_with fail
          go_ret
          exact ⟨rfl, HX1.out.trans (HXa0.out.trans HXz.out)⟩
end Go.Proofs.YtlaepkmnbbgbcaaGreatDoor
/- CodeStrips returns true. -/
namespace Go.Proofs.YtlaepkmnbbgbcaaGreatDoor
open Go.RowKit Go.Instr Go.Sort
set_option linter.unusedVariables false
set_option linter.unusedSimpArgs false
attribute [local go_sem] Oper.semAt_some

/-- The code without anything. -/
def nilC : Co := ⟨[], [], [], [], []⟩
theorem nil_rd (w : World) : RdCo w (.slice none 0 0) (.slice none 0 0) (.slice none 0 0) (.slice none 0 0) (.slice none 0 0) nilC [] :=
  { ds := RdL.nil w, de := fun x hx => (by cases hx), eq := rfl, ls := RdL.nil w, ts := RdL.nil w, rs := RdL.nil w, is := RdL.nil w }
theorem nil_big : Big nilC := ⟨by decide, by decide, by decide, by decide, by decide, fun s hs => (by cases hs), fun d hd => (by cases hd)⟩
theorem zSame_any {w : World} : Calls Tryz.prog 16 #[zeroV, zeroV] w fun e w' => e = .returned (.bool true) ∧ Ex w w' := rSame_any (nil_rd w) (nil_rd w) nil_big
set_option maxRecDepth 100000 in
set_option maxHeartbeats 8000000 in
theorem CodeStrips_any {w : World} (hmx : Mx w) (htb : Tab w) {dv lv tv rv iv : Value} {c : Co} {xs : List DeV} (h : RdCo w dv lv tv rv iv c xs) (hnum : NumC c) :
    Calls Tryz.prog 3 #[codeV dv lv tv rv iv] w fun e w' => e = .returned (.bool true) ∧ Ex w w' := by
  obtain ⟨W1, hW1⟩ : ∃ W1, w.alloc (.cells #[dv, lv, tv, rv, iv] 28) = W1 := ⟨_, rfl⟩
  obtain ⟨b0, hb0⟩ : ∃ b0, w.heap.size = b0 := ⟨_, rfl⟩
  have hX1 : Ex w W1 := by rw [← hW1]; exact (Keeps.refl _ w).alloc _
  have hB0 : Blk W1 b0 #[dv, lv, tv, rv, iv] 28 := by rw [← hW1, ← hb0]; exact Blk.new w _ _
  have hf := Small_any (h.ext hX1)
  have HSan : ∀ V, Ex w V → Hid (Calls Tryz.prog 13 #[] V fun e w' => e = .returned (.bool true) ∧ Ex V w') := fun V hV => Lib.hid (sanity_any (hmx.ext hV) (htb.ext hV))
  have HSt : Hid (smallB c = true → ∀ V, Ex W1 V → Calls Tryz.prog 14 #[codeV dv lv tv rv iv] V (StripR V c)) := Lib.hid (fun hb V hV => Strip_any ((h.ext hX1).ext hV) (small_big hb))
  have HVa : Hid (smallB c = true → ∀ V, Ex W1 V → Calls Tryz.prog 15 #[codeV dv lv tv rv iv] V fun e w' => e = .returned (.bool (decide ((chk c).1 = 0))) ∧ Ex V w') := Lib.hid (fun hb V hV => rValid_any ((h.ext hX1).ext hV) (small_big hb) (fun x hx => (hnum.reals x hx).1))
  have HRs : Hid (smallB c = true → Good c → ∀ V, Ex W1 V → Calls Tryz.prog 17 #[codeV dv lv tv rv iv] V (RStripR V c)) := Lib.hid (fun hb hg V hV => rStrip_any ((h.ext hX1).ext hV) (small_big hb) hg)
  obtain ⟨da, dc, rfl, -⟩ := id h.ds
  obtain ⟨la, lc, rfl, -⟩ := id h.ls
  obtain ⟨ta, tc, rfl, -⟩ := id h.ts
  obtain ⟨ra, rc, rfl, -⟩ := id h.rs
  obtain ⟨ia, ic, rfl, -⟩ := id h.is
  have HF0 : ∀ V, Ex W1 V → Hid (V.cell? ⟨b0, 0, none⟩ = some (.slice da xs.length dc) ∧ V.cell? ⟨b0, 1, none⟩ = some (.slice la c.labels.length lc) ∧ V.cell? ⟨b0, 2, none⟩ = some (.slice ta c.texts.length tc) ∧ V.cell? ⟨b0, 3, none⟩ = some (.slice ra c.reals.length rc) ∧ V.cell? ⟨b0, 4, none⟩ = some (.slice ia c.instrs.length ic)) := fun V hV =>
    ⟨((hV.blk hB0 id).cell 0).trans rfl, ((hV.blk hB0 id).cell 1).trans rfl, ((hV.blk hB0 id).cell 2).trans rfl, ((hV.blk hB0 id).cell 3).trans rfl, ((hV.blk hB0 id).cell 4).trans rfl⟩
  unfold codeV at hf HSt HVa HRs ⊢
  have HX1 := Lib.hid hX1; have HW1 := Lib.hid hW1; have Hb0 := Lib.hid hb0; have HFn := Lib.hid hf
  clear h hX1 hB0 hW1 hb0 hf hmx htb hnum
  generalize hM : (fun (e : Ending) (w' : World) => e = .returned (.bool true) ∧ Ex w w') = M
  have HM := Lib.hid hM
  clear hM
  obtain ⟨x0, x1, x2, x3, x4⟩ := (HF0 W1 (Keeps.refl _ _)).out
  go_enter Tryz.func3, Tryz.ntmps3
  go_upto_region 1 with fail
  rw [HW1.out]
  try rw [Hb0.out]
  go_wp2_with fail
  refine HFn.out.mono ?_
  rintro e w2 ⟨rfl, hx2⟩
  have HX2 := Lib.hid hx2
  clear hx2 x0 x1 x2 x3 x4
  obtain ⟨x0, x1, x2, x3, x4⟩ := (HF0 w2 HX2.out).out
  cases hsm : smallB c with
  | false =>
    clear hsm
    go_wp2_with fail
    refine (HSan _ (HX1.out.trans HX2.out)).out.mono ?_
    rintro e ws ⟨rfl, hxs⟩
    have HXs := Lib.hid ((HX1.out.trans HX2.out).trans hxs)
    clear hxs
    go_wp2_with fail
    rw [← HM.out]
    exact ⟨rfl, HXs.out⟩
  | true =>
  have HSm := Lib.hid hsm
  clear hsm
  go_wp2_with fail
  refine (HSt.out HSm.out w2 HX2.out).mono ?_
  intro e w3 he
  unfold StripR at he
  clear x0 x1 x2 x3 x4
  by_cases hg : (chk c).1 = 0
  case neg =>
    rw [if_neg hg] at he
    obtain ⟨rfl, hx3⟩ := he
    have HX3 := Lib.hid (HX2.out.trans hx3)
    have hVa := HVa.out HSm.out
    rw [decide_eq_false hg] at hVa
    have HVa2 := Lib.hid hVa
    unfold zeroV codeV
    clear hx3 hVa hg
    obtain ⟨W4, hW4⟩ : ∃ W4, w3.alloc (.cells #[.slice none 0 0, .slice none 0 0, .slice none 0 0, .slice none 0 0, .slice none 0 0] 28) = W4 := ⟨_, rfl⟩
    obtain ⟨b4, hb4⟩ : ∃ b, w3.heap.size = b := ⟨_, rfl⟩
    have HX4 : Hid (Ex W1 W4) := Lib.hid (by rw [← hW4]; exact HX3.out.alloc _)
    have hB4 : Blk W4 b4 #[.slice none 0 0, .slice none 0 0, .slice none 0 0, .slice none 0 0, .slice none 0 0] 28 := by rw [← hW4, ← hb4]; exact Blk.new w3 _ _
    have HY0 : ∀ V, Ex W4 V → Hid (V.cell? ⟨b4, 0, none⟩ = some (.slice none 0 0) ∧ V.cell? ⟨b4, 1, none⟩ = some (.slice none 0 0) ∧ V.cell? ⟨b4, 2, none⟩ = some (.slice none 0 0) ∧ V.cell? ⟨b4, 3, none⟩ = some (.slice none 0 0) ∧ V.cell? ⟨b4, 4, none⟩ = some (.slice none 0 0)) := fun V hV =>
      ⟨((hV.blk hB4 id).cell 0).trans rfl, ((hV.blk hB4 id).cell 1).trans rfl, ((hV.blk hB4 id).cell 2).trans rfl, ((hV.blk hB4 id).cell 3).trans rfl, ((hV.blk hB4 id).cell 4).trans rfl⟩
    have HW4 := Lib.hid hW4; have Hb4 := Lib.hid hb4
    clear hW4 hb4 hB4
    obtain ⟨x0, x1, x2, x3, x4⟩ := (HF0 W4 HX4.out).out
    go_upto_region 4 with fail
    rw [HW4.out]
    try rw [Hb4.out]
    go_wp2_with fail
    refine (HVa2.out W4 HX4.out).mono ?_
    rintro e w5 ⟨rfl, hx5⟩
    have HX45 := Lib.hid hx5
    have HX5 := Lib.hid (HX4.out.trans hx5)
    clear hx5 x0 x1 x2 x3 x4
    go_wp2_with fail
    refine (HSan _ (HX1.out.trans HX5.out)).out.mono ?_
    rintro e w6 ⟨rfl, hx6⟩
    have HX46 := Lib.hid (HX45.out.trans hx6)
    have HX6 := Lib.hid (HX5.out.trans hx6)
    clear hx6
    obtain ⟨y0, y1, y2, y3, y4⟩ := (HY0 w6 HX46.out).out
    go_wp2_with fail
    refine (zSame_any (w := w6)).mono ?_
    rintro e w7 ⟨rfl, hx7⟩
    have HX7 := Lib.hid (HX6.out.trans hx7)
    clear hx7
    go_wp2_with fail
    rw [← HM.out]
    exact ⟨rfl, HX1.out.trans HX7.out⟩
  rw [if_pos hg] at he
  have hgood := (good_iff c).1 hg
  have hVa := HVa.out HSm.out
  rw [decide_eq_true hg] at hVa
  have HVa2 := Lib.hid hVa; have HGood := Lib.hid hgood
  clear hVa hgood hg
  by_cases hl : lastOp c = 53
  case pos =>
    rw [if_pos hl] at he
    obtain ⟨rfl, hx3⟩ := he
    have HX3 := Lib.hid (HX2.out.trans hx3)
    have Hl := Lib.hid hl
    unfold zeroV codeV
    clear hx3 hl
    obtain ⟨W4, hW4⟩ : ∃ W4, w3.alloc (.cells #[.slice none 0 0, .slice none 0 0, .slice none 0 0, .slice none 0 0, .slice none 0 0] 28) = W4 := ⟨_, rfl⟩
    obtain ⟨b4, hb4⟩ : ∃ b, w3.heap.size = b := ⟨_, rfl⟩
    have HX4 : Hid (Ex W1 W4) := Lib.hid (by rw [← hW4]; exact HX3.out.alloc _)
    have hB4 : Blk W4 b4 #[.slice none 0 0, .slice none 0 0, .slice none 0 0, .slice none 0 0, .slice none 0 0] 28 := by rw [← hW4, ← hb4]; exact Blk.new w3 _ _
    have HY0 : ∀ V, Ex W4 V → Hid (V.cell? ⟨b4, 0, none⟩ = some (.slice none 0 0) ∧ V.cell? ⟨b4, 1, none⟩ = some (.slice none 0 0) ∧ V.cell? ⟨b4, 2, none⟩ = some (.slice none 0 0) ∧ V.cell? ⟨b4, 3, none⟩ = some (.slice none 0 0) ∧ V.cell? ⟨b4, 4, none⟩ = some (.slice none 0 0)) := fun V hV =>
      ⟨((hV.blk hB4 id).cell 0).trans rfl, ((hV.blk hB4 id).cell 1).trans rfl, ((hV.blk hB4 id).cell 2).trans rfl, ((hV.blk hB4 id).cell 3).trans rfl, ((hV.blk hB4 id).cell 4).trans rfl⟩
    have HW4 := Lib.hid hW4; have Hb4 := Lib.hid hb4
    clear hW4 hb4 hB4
    obtain ⟨x0, x1, x2, x3, x4⟩ := (HF0 W4 HX4.out).out
    go_upto_region 4 with fail
    rw [HW4.out]
    try rw [Hb4.out]
    go_wp2_with fail
    refine (HVa2.out W4 HX4.out).mono ?_
    rintro e w5 ⟨rfl, hx5⟩
    have HX45 := Lib.hid hx5
    have HX5 := Lib.hid (HX4.out.trans hx5)
    clear hx5 x0 x1 x2 x3 x4
    obtain ⟨x0, x1, x2, x3, x4⟩ := (HF0 w5 HX5.out).out
    go_wp2_with fail
    refine (HRs.out HSm.out HGood.out w5 HX5.out).mono ?_
    intro e w6 he
    unfold RStripR at he
    rw [if_pos Hl.out] at he
    obtain ⟨rfl, hx6⟩ := he
    have HX46 := Lib.hid (HX45.out.trans hx6)
    have HX6 := Lib.hid (HX5.out.trans hx6)
    clear hx6 x0 x1 x2 x3 x4
    obtain ⟨W7, hW7⟩ : ∃ W7, w6.alloc (.cells #[.slice none 0 0, .slice none 0 0, .slice none 0 0, .slice none 0 0, .slice none 0 0, .int .i64 5] 36) = W7 := ⟨_, rfl⟩
    obtain ⟨b7, hb7⟩ : ∃ b, w6.heap.size = b := ⟨_, rfl⟩
    have hX67 : Ex w6 W7 := by rw [← hW7]; exact (Keeps.refl _ _).alloc _
    have HX47 := Lib.hid (HX46.out.trans hX67)
    have HX7 := Lib.hid (HX6.out.trans hX67)
    have hB7 : Blk W7 b7 #[.slice none 0 0, .slice none 0 0, .slice none 0 0, .slice none 0 0, .slice none 0 0, .int .i64 5] 36 := by rw [← hW7, ← hb7]; exact Blk.new w6 _ _
    have HB7 := Lib.hid hB7; have HW7 := Lib.hid hW7; have Hb7 := Lib.hid hb7
    clear hX67 hB7 hW7 hb7
    go_upto_region 7 with fail
    rw [HW7.out]
    try rw [Hb7.out]
    go_wp2_with fail
    refine (HSan _ (HX1.out.trans HX7.out)).out.mono ?_
    rintro e w8 ⟨rfl, hx8⟩
    have HX48 := Lib.hid (HX47.out.trans hx8)
    have HX8 := Lib.hid (HX7.out.trans hx8)
    have hB8 := hx8.blk HB7.out id
    clear hx8
    obtain ⟨y0, y1, y2, y3, y4⟩ := (HY0 w8 HX48.out).out
    have z0 : w8.cell? ⟨b7, 0, none⟩ = some (.slice none 0 0) := (hB8.cell 0).trans rfl
    have z1 : w8.cell? ⟨b7, 1, none⟩ = some (.slice none 0 0) := (hB8.cell 1).trans rfl
    have z2 : w8.cell? ⟨b7, 2, none⟩ = some (.slice none 0 0) := (hB8.cell 2).trans rfl
    have z3 : w8.cell? ⟨b7, 3, none⟩ = some (.slice none 0 0) := (hB8.cell 3).trans rfl
    have z4 : w8.cell? ⟨b7, 4, none⟩ = some (.slice none 0 0) := (hB8.cell 4).trans rfl
    have z5 : w8.cell? ⟨b7, 5, none⟩ = some (.int .i64 5) := (hB8.cell 5).trans rfl
    clear hB8
    go_wp2_with fail
    refine (zSame_any (w := w8)).mono ?_
    rintro e w9 ⟨rfl, hx9⟩
    have HX9 := Lib.hid (HX8.out.trans hx9)
    clear hx9
    go_wp2_with fail
    rw [← HM.out]
    exact ⟨rfl, HX1.out.trans HX9.out⟩
  rw [if_neg hl] at he
  obtain ⟨dv2, lv2, tv2, rv2, iv2, ys, rfl, hrd, hx3⟩ := he
  have HX3 := Lib.hid (HX2.out.trans hx3)
  have Hl := Lib.hid hl
  have HBg := Lib.hid (small_big (strip_small HSm.out))
  have HRd := Lib.hid hrd
  obtain ⟨a0, c0, e0, -⟩ := id hrd.ds
  obtain ⟨a1, c1, e1, -⟩ := id hrd.ls
  obtain ⟨a2, c2, e2, -⟩ := id hrd.ts
  obtain ⟨a3, c3, e3, -⟩ := id hrd.rs
  obtain ⟨a4, c4, e4, -⟩ := id hrd.is
  generalize ys.length = n0 at e0
  generalize (stripC c).labels.length = n1 at e1
  generalize (stripC c).texts.length = n2 at e2
  generalize (stripC c).reals.length = n3 at e3
  generalize (stripC c).instrs.length = n4 at e4
  subst e0; subst e1; subst e2; subst e3; subst e4
  unfold codeV
  clear hx3 hl hrd
  obtain ⟨W4, hW4⟩ : ∃ W4, w3.alloc (.cells #[.slice a0 n0 c0, .slice a1 n1 c1, .slice a2 n2 c2, .slice a3 n3 c3, .slice a4 n4 c4] 28) = W4 := ⟨_, rfl⟩
  obtain ⟨b4, hb4⟩ : ∃ b, w3.heap.size = b := ⟨_, rfl⟩
  have HX34 : Hid (Ex w3 W4) := Lib.hid (by rw [← hW4]; exact (Keeps.refl _ _).alloc _)
  have HX4 : Hid (Ex W1 W4) := Lib.hid (HX3.out.trans HX34.out)
  have hB4 : Blk W4 b4 #[.slice a0 n0 c0, .slice a1 n1 c1, .slice a2 n2 c2, .slice a3 n3 c3, .slice a4 n4 c4] 28 := by rw [← hW4, ← hb4]; exact Blk.new w3 _ _
  have HY0 : ∀ V, Ex W4 V → Hid (V.cell? ⟨b4, 0, none⟩ = some (.slice a0 n0 c0) ∧ V.cell? ⟨b4, 1, none⟩ = some (.slice a1 n1 c1) ∧ V.cell? ⟨b4, 2, none⟩ = some (.slice a2 n2 c2) ∧ V.cell? ⟨b4, 3, none⟩ = some (.slice a3 n3 c3) ∧ V.cell? ⟨b4, 4, none⟩ = some (.slice a4 n4 c4)) := fun V hV =>
    ⟨((hV.blk hB4 id).cell 0).trans rfl, ((hV.blk hB4 id).cell 1).trans rfl, ((hV.blk hB4 id).cell 2).trans rfl, ((hV.blk hB4 id).cell 3).trans rfl, ((hV.blk hB4 id).cell 4).trans rfl⟩
  have HW4 := Lib.hid hW4; have Hb4 := Lib.hid hb4
  clear hW4 hb4 hB4
  obtain ⟨x0, x1, x2, x3, x4⟩ := (HF0 W4 HX4.out).out
  go_upto_region 4 with fail
  rw [HW4.out]
  try rw [Hb4.out]
  go_wp2_with fail
  refine (HVa2.out W4 HX4.out).mono ?_
  rintro e w5 ⟨rfl, hx5⟩
  have HX45 := Lib.hid hx5
  have HX5 := Lib.hid (HX4.out.trans hx5)
  clear hx5 x0 x1 x2 x3 x4
  obtain ⟨x0, x1, x2, x3, x4⟩ := (HF0 w5 HX5.out).out
  go_wp2_with fail
  refine (HRs.out HSm.out HGood.out w5 HX5.out).mono ?_
  intro e w6 he
  unfold RStripR at he
  rw [if_neg Hl.out] at he
  obtain ⟨ev, mv, uv, sv, jv, zs, rfl, hrd2, hx6⟩ := he
  have HX46 := Lib.hid (HX45.out.trans hx6)
  have HX6 := Lib.hid (HX5.out.trans hx6)
  have HRd2 := Lib.hid hrd2
  obtain ⟨p0, q0, e0, -⟩ := id hrd2.ds
  obtain ⟨p1, q1, e1, -⟩ := id hrd2.ls
  obtain ⟨p2, q2, e2, -⟩ := id hrd2.ts
  obtain ⟨p3, q3, e3, -⟩ := id hrd2.rs
  obtain ⟨p4, q4, e4, -⟩ := id hrd2.is
  generalize zs.length = m0 at e0
  generalize (stripC c).labels.length = m1 at e1
  generalize (stripC c).texts.length = m2 at e2
  generalize (stripC c).reals.length = m3 at e3
  generalize (stripC c).instrs.length = m4 at e4
  subst e0; subst e1; subst e2; subst e3; subst e4
  clear hx6 hrd2 x0 x1 x2 x3 x4
  obtain ⟨W7, hW7⟩ : ∃ W7, w6.alloc (.cells #[.slice p0 m0 q0, .slice p1 m1 q1, .slice p2 m2 q2, .slice p3 m3 q3, .slice p4 m4 q4, .int .i64 0] 36) = W7 := ⟨_, rfl⟩
  obtain ⟨b7, hb7⟩ : ∃ b, w6.heap.size = b := ⟨_, rfl⟩
  have hX67 : Ex w6 W7 := by rw [← hW7]; exact (Keeps.refl _ _).alloc _
  have HX67 := Lib.hid hX67
  have HX47 := Lib.hid (HX46.out.trans hX67)
  have HX7 := Lib.hid (HX6.out.trans hX67)
  have hB7 : Blk W7 b7 #[.slice p0 m0 q0, .slice p1 m1 q1, .slice p2 m2 q2, .slice p3 m3 q3, .slice p4 m4 q4, .int .i64 0] 36 := by rw [← hW7, ← hb7]; exact Blk.new w6 _ _
  have HB7 := Lib.hid hB7; have HW7 := Lib.hid hW7; have Hb7 := Lib.hid hb7
  clear hX67 hB7 hW7 hb7
  go_upto_region 7 with fail
  rw [HW7.out]
  try rw [Hb7.out]
  go_wp2_with fail
  refine (HSan _ (HX1.out.trans HX7.out)).out.mono ?_
  rintro e w8 ⟨rfl, hx8⟩
  have HX48 := Lib.hid (HX47.out.trans hx8)
  have HX8 := Lib.hid (HX7.out.trans hx8)
  have HSame := Lib.hid (rSame_any (w := w8) (HRd.out.ext (HX34.out.trans HX48.out)) (HRd2.out.ext (HX67.out.trans hx8)) HBg.out)
  have hB8 := hx8.blk HB7.out id
  clear hx8
  obtain ⟨y0, y1, y2, y3, y4⟩ := (HY0 w8 HX48.out).out
  have z0 : w8.cell? ⟨b7, 0, none⟩ = some (.slice p0 m0 q0) := (hB8.cell 0).trans rfl
  have z1 : w8.cell? ⟨b7, 1, none⟩ = some (.slice p1 m1 q1) := (hB8.cell 1).trans rfl
  have z2 : w8.cell? ⟨b7, 2, none⟩ = some (.slice p2 m2 q2) := (hB8.cell 2).trans rfl
  have z3 : w8.cell? ⟨b7, 3, none⟩ = some (.slice p3 m3 q3) := (hB8.cell 3).trans rfl
  have z4 : w8.cell? ⟨b7, 4, none⟩ = some (.slice p4 m4 q4) := (hB8.cell 4).trans rfl
  have z5 : w8.cell? ⟨b7, 5, none⟩ = some (.int .i64 0) := (hB8.cell 5).trans rfl
  clear hB8
  go_wp2_with fail
  refine HSame.out.mono ?_
  rintro e w9 ⟨rfl, hx9⟩
  have HX9 := Lib.hid (HX8.out.trans hx9)
  clear hx9
  go_wp2_with fail
  rw [← HM.out]
  exact ⟨rfl, HX1.out.trans HX9.out⟩
end Go.Proofs.YtlaepkmnbbgbcaaGreatDoor
/- CodeStrips: the card: it returns true for every input, and the input reads as it did. (Written by wip/tools/genClaim.py.) -/
namespace Go.Proofs.YtlaepkmnbbgbcaaGreatDoor
open Go.RowKit Go.Instr Go.ChangeShapes Go.WideShapes Go.ChangeAt
open Go.ChangeMaps (open_string shut_string)
set_option linter.unusedVariables false
set_option linter.unusedSimpArgs false

set_option maxRecDepth 100000 in
theorem codeStrips_witness (os : Os) (H : Type) (enc : TypeId × Value → H) : ∃ (w : World) (tape : Tape) (i : Input), w.os = os ∧ (w.forCall tape i).Shaped Tryz.checked.prog ∧ i.vars = [] ∧ Input.okWide Tryz.checked.prog (w.forCall tape i) .any w.heap.size 3 i ∧
      (OpenSpec.ofChange Rows.codeStripsSpec).preRow enc Tryz.checked.prog Tryz.f3 Rows.codeStripsRow.domain false Rows.codeStripsRow.laid (w.forCall tape i).memory i.args ∧ ({} : Assume).holds Tryz.checked.prog (lone (Frame.enter Tryz.checked.prog 3 i.args .normal) [] (w.forCall tape i)) := by
  have hok : Input.okWideB Tryz.prog ((laidW os).forCall (fun _ _ => 0) ⟨#[], #[.agg #[.slice none 0 0, .slice none 0 0, .slice none 0 0, .slice none 0 0, .slice none 0 0]], []⟩) 3 ⟨#[], #[.agg #[.slice none 0 0, .slice none 0 0, .slice none 0 0, .slice none 0 0, .slice none 0 0]], []⟩ = true := by kernel_rfl
  refine ⟨laidW os, fun _ _ => 0, ⟨#[], #[.agg #[.slice none 0 0, .slice none 0 0, .slice none 0 0, .slice none 0 0, .slice none 0 0]], []⟩, World.laidAll_os _ _ _, World.shaped_of_ZipB (by kernel_rfl) (by kernel_rfl), rfl, (Input.okWide_of_okWideB hok).2, ?_, ?_⟩
  · exact OpenSpec.preRow_of_cond 8 (x := ([.agg [.nil, .nil, .nil, .nil, .nil]], [], [])) (by kernel_rfl) (by kernel_rfl) (fun k hk => by cases hk) (by kernel_rfl) (laidW_met os _)
  · simp only [Assume.holds]
    exact ⟨by simp, by simp, fun h => (by cases h), by simp, by simp⟩
theorem codeStrips_reads : Tryz.f3.params.toList.all (fun t => Tryz.prog.readableRec t && decide (t < Tryz.prog.types.size)) = true := by kernel_rfl
set_option maxRecDepth 100000 in
theorem CodeStrips_lifted (os : Os) (started : os.Started) (H : Type) (enc : TypeId × Value → H) (F : Stop.Interp) :
    ReturnsInHanded {} Tryz.checked os 3 .any ((OpenSpec.ofChange Rows.codeStripsSpec).preRow enc Tryz.prog Tryz.f3 Rows.codeStripsRow.domain false Rows.codeStripsRow.laid) (((OpenSpec.ofChange Rows.codeStripsSpec).at F).post enc Tryz.prog Tryz.f3 false true false false) := by
  refine returnsInHanded_of_row (C := Tryz.checked) (s := OpenSpec.ofChange Rows.codeStripsSpec) own' started (by kernel_rfl) Tryz.func3 (codeStrips_witness os H enc) ?_
  intro W base args ds gs before hval0 hW _ _ _ hL hsh _
  have hval : ∀ (j : Nat) t v, Tryz.f3.params[j]? = some t → args[j]? = some v → Value.okWide Tryz.prog W .any base t v := hval0
  have hW' := hW
  have hlt := hW.lt
  obtain ⟨p, q, hA0, hV, rfl, hfz, hnd⟩ := hW
  have hA : DataW.TrodAll enc Tryz.prog W 0 (fun _ => true) true Tryz.f3.params.toList args.toList ds p := hA0
  have hA1 := hA
  rw [Tryz.params3] at hA hval
  obtain ⟨v0, vs0, d0, ds0, p0, q0, hargs, rfl, rfl, h0, r0⟩ := trodAll_cons hA
  obtain ⟨rfl, rfl, rfl⟩ := trodAll_nil r0
  obtain rfl : args = #[v0] := by cases args; simp_all
  obtain ⟨rfl, rfl⟩ := trodVars_none hV
  obtain ⟨dv0, lv0, tv0, rv0, iv0, c0, xs0, rfl, hrd0, hnum0⟩ := open_code_arg (hval 0 28 v0 rfl rfl) h0
  have hm := mx_of hsh
  have ht := tab_of (laidL_met.1 hL)
  refine (CodeStrips_any hm ht hrd0 hnum0).mono ?_
  rintro e W' ⟨rfl, hx⟩
  have hbl : Below W.heap.size W W' := hx.below (Nat.le_refl _) (fun _ h => h.elim)
  refine ⟨_, rfl, _, _, _, [], _, _, hW', trodAll_mk1 (shut_bool Tryz.underlying4 _), Below.trodAll' laidOut' hbl ?_ hA1 ?_, rfl, hbl.frame _, fun h => by cases h⟩
  · intro t ht
    have := List.all_eq_true.1 codeStrips_reads t ht
    simp only [Bool.and_eq_true, decide_eq_true_eq] at this
    exact this
  · exact fun x hx => hlt x (by simpa using hx)
end Go.Proofs.YtlaepkmnbbgbcaaGreatDoor
