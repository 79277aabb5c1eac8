/- descFits: a descriptor whose chain is longer. The shelf's contracts for strings.ContainsFunc and TrimPrefix, laid at this program (written by the kit's lay-shelf and lay-plain, cut down by wip/tools/prune.py). number.Valid; the checks of operands that are texts. -/
import Derived.Test.YtlaepkmnbbgbcaaGreatDoorGB5
import Derived.Test.YtlaepkmnbbgbcaaGreatDoorGB1
import Derived.Shelf.GgClosure.StringsIndexFuncTop
import Derived.Shelf.Strings.Prefix
import Derived.Test.YtlaepkmnbbgbcaaGreatDoorGB3
import Derived.Laws.RangeString
/- descFits: a descriptor whose chain is longer. -/
namespace Go.Proofs.YtlaepkmnbbgbcaaGreatDoor
open Go.RowKit Go.Instr
set_option linter.unusedVariables false
set_option linter.unusedSimpArgs false
attribute [local go_sem] Oper.semAt_some

theorem wrap_small {n : Int} (h0 : 0 ≤ n) (h1 : n ≤ 1000000000) : IntKind.i64.wrap n = n := by
  rw [IntKind.wrap_i64]
  omega
set_option maxRecDepth 100000 in
set_option maxHeartbeats 40000000 in
theorem descFits_more {w : World} {dv lv tv rv iv : Value} {c : Co} {xs : List DeV} (h : RdCo w dv lv tv rv iv c xs) (hb : Big c) (i : Nat) (hi : i < c.descs.length) (h1 : -1 ≤ (c.de i).around) (h2 : (c.de i).around < i) (h3 : chainB c i (c.de i) = true) (m : Nat) (hlen : (c.de i).chain.length = m + 2) :
    Calls Tryz.prog 62 #[codeV dv lv tv rv iv, .int .i64 i] w fun e w' => e = .returned (.bool (descB c i)) ∧ Ex w w' := by
  obtain ⟨da, dc, rfl, -, hd1, -⟩ := id h.ds
  obtain ⟨la, lc, rfl, -⟩ := id h.ls
  obtain ⟨ta, tc, rfl, -⟩ := id h.ts
  obtain ⟨ra, rc, rfl, -⟩ := id h.rs
  obtain ⟨ia, ic, rfl, -⟩ := id h.is
  have hn := h.len
  have hi' : i < xs.length := by omega
  obtain ⟨x, hx⟩ : ∃ x, xs[i]? = some x := ⟨_, List.getElem?_eq_getElem hi'⟩
  have hde := h.de_at hx
  have hD := h.de x (List.mem_of_getElem? hx)
  obtain ⟨d, cv, uv, vv⟩ := x
  simp only at hde
  rw [hde] at h1 h2 h3 hlen
  have HL := Lib.hid hlen
  clear hlen
  generalize hB : descB c i = B
  obtain ⟨ca, cc, ec, hc0, hc1, -⟩ := id hD.chain
  obtain ⟨ua, uc, eu, -, hu1, -⟩ := id hD.up
  obtain ⟨va, vc, ev, -, hv1, -⟩ := id hD.virts
  simp only at ec eu ev hc0 hc1 hu1 hv1 hD
  subst ec; subst eu; subst ev
  obtain ⟨ad, rfl⟩ : ∃ ad, da = some ad := by
    cases da with
    | none => have := hd1 rfl; subst this; simp at hi'
    | some ad => exact ⟨ad, rfl⟩
  obtain ⟨A, hA⟩ : ∃ A, ad.add (i * 11) = A := ⟨_, rfl⟩
  obtain ⟨W1, hW1⟩ : ∃ W1, w.alloc (.cells #[.slice (some ad) xs.length dc, .slice la c.labels.length lc, .slice ta c.texts.length tc, .slice ra c.reals.length rc, .slice ia c.instrs.length ic] 28) = W1 := ⟨_, rfl⟩
  obtain ⟨b0, hb0⟩ : ∃ b0, w.heap.size = b0 := ⟨_, rfl⟩
  have hX1 : Ex w W1 := by rw [← hW1]; exact (Keeps.refl _ w).alloc _
  have hB0 : Blk W1 b0 #[.slice (some ad) xs.length dc, .slice la c.labels.length lc, .slice ta c.texts.length tc, .slice ra c.reals.length rc, .slice ia c.instrs.length ic] 28 := by rw [← hW1, ← hb0]; exact Blk.new w _ _
  have hs1 : W1.heap.size = b0 + 1 := by rw [← hW1, ← hb0, World.size_alloc]
  have x0 : W1.cell? ⟨b0, 0, none⟩ = some (.slice (some ad) xs.length dc) := (hB0.cell 0).trans rfl
  obtain ⟨e0, e1, e2, e3, e4, e5, e6, e7, e8, e9, e10⟩ := (h.ds.ext hX1).deCells hx hA
  obtain ⟨W2, hW2⟩ : ∃ W2, W1.alloc (.cells (encD ⟨d, .slice ca d.chain.length cc, .slice ua d.up.length uc, .slice va d.virts.length vc⟩).toArray 50) = W2 := ⟨_, rfl⟩
  obtain ⟨b1, hb1⟩ : ∃ b1, W1.heap.size = b1 := ⟨_, rfl⟩
  have hX2 : Ex w W2 := by rw [← hW2]; exact hX1.alloc _
  have hX12 : Ex W1 W2 := by rw [← hW2]; exact (Keeps.refl _ W1).alloc _
  have hB1 : Blk W2 b1 (encD ⟨d, .slice ca d.chain.length cc, .slice ua d.up.length uc, .slice va d.virts.length vc⟩).toArray 50 := by rw [← hW2, ← hb1]; exact Blk.new W1 _ _
  dsimp only [encD] at hW2 hB1
  have hlx : xs.length ≤ 1000000 := by have := hb.d; omega
  have hil : c.instrs.length ≤ 1000000 := hb.i
  have hch := chainFits_any (h.ext hX2) hb i hi
  rw [hde] at hch
  unfold codeV at hch
  have hdm : d ∈ c.descs := by rw [← h.eq]; exact List.mem_map.2 ⟨_, List.mem_of_getElem? hx, rfl⟩
  have hcl : d.chain.length ≤ 1000000 := (hb.e d hdm).1
  have hvl : d.virts.length ≤ 1000000 := (hb.e d hdm).2.2
  have H := Lib.hid h; have HX1 := Lib.hid hX1; have HB0 := Lib.hid (hX12.blk hB0 id); have HD := Lib.hid hD; have HN := Lib.hid hn; have HXx := Lib.hid hx; have HB1 := Lib.hid hB1; have HX2 := Lib.hid hX2
  have HW1 := Lib.hid hW1; have Hb0 := Lib.hid hb0; have Hde := Lib.hid hde; have Hc1 := Lib.hid hc1; have Hu1 := Lib.hid hu1; have Hv1 := Lib.hid hv1; have Hb := Lib.hid hb; have Hc0 := Lib.hid hc0; have HW2 := Lib.hid hW2; have Hb1 := Lib.hid hb1; have HB := Lib.hid hB; have HA := Lib.hid hA; have HCH := Lib.hid hch
  clear h hX1 hB0 hD hs1 hn hx hW1 hb0 hde hd1 hc1 hu1 hv1 hb hc0 hX2 hX12 hB1 hW2 hb1 hB hch hdm
  have HF0 : ∀ V, Ex W2 V → Hid ((V.cell? ⟨b0, 0, none⟩ = some (.slice (some ad) xs.length dc) ∧ V.cell? ⟨b0, 1, none⟩ = some (.slice la c.labels.length lc) ∧ V.cell? ⟨b0, 2, none⟩ = some (.slice ta c.texts.length tc) ∧ V.cell? ⟨b0, 3, none⟩ = some (.slice ra c.reals.length rc) ∧ V.cell? ⟨b0, 4, none⟩ = some (.slice ia c.instrs.length ic)) ∧
      V.cell? ⟨b1, 0, none⟩ = some (.int .i64 d.around) ∧ V.cell? ⟨b1, 1, none⟩ = some (.slice ca d.chain.length cc) ∧ V.cell? ⟨b1, 3, none⟩ = some (.int .i64 d.offset) ∧ V.cell? ⟨b1, 4, none⟩ = some (.int .i64 d.cells) ∧ V.cell? ⟨b1, 5, none⟩ = some (.slice va d.virts.length vc) ∧
      V.cell? ⟨b1, 6, none⟩ = some (.int .i64 d.init) ∧ V.cell? ⟨b1, 7, none⟩ = some (.int .i64 d.enter) ∧ V.cell? ⟨b1, 8, none⟩ = some (.int .i64 d.do_) ∧ V.cell? ⟨b1, 9, none⟩ = some (.int .i64 d.exit) ∧ V.cell? ⟨b1, 10, none⟩ = some (.int .i64 d.stack)) := fun V hV =>
    ⟨⟨((hV.blk HB0.out id).cell 0).trans rfl, ((hV.blk HB0.out id).cell 1).trans rfl, ((hV.blk HB0.out id).cell 2).trans rfl, ((hV.blk HB0.out id).cell 3).trans rfl, ((hV.blk HB0.out id).cell 4).trans rfl⟩,
     ((hV.blk HB1.out id).cell 0).trans rfl, ((hV.blk HB1.out id).cell 1).trans rfl, ((hV.blk HB1.out id).cell 3).trans rfl, ((hV.blk HB1.out id).cell 4).trans rfl, ((hV.blk HB1.out id).cell 5).trans rfl, ((hV.blk HB1.out id).cell 6).trans rfl, ((hV.blk HB1.out id).cell 7).trans rfl, ((hV.blk HB1.out id).cell 8).trans rfl, ((hV.blk HB1.out id).cell 9).trans rfl, ((hV.blk HB1.out id).cell 10).trans rfl⟩
  unfold codeV
  simp only at e0 e1 e2 e3 e4 e5 e6 e7 e8 e9 e10
  go_enter Tryz.func62, Tryz.ntmps62
  go_upto_region 1 with fail
  try rw [HW1.out]
  try rw [Hb0.out]
  go_upto_region 2 with fail
  rw [HW2.out, Hb1.out]
  clear e0 e1 e2 e3 e4 e5 e6 e7 e8 e9 e10 x0
  obtain ⟨⟨x0, x1, x2, x3, x4⟩, y0, y1, y3, y4, y5, y6, y7, y8, y9, y10⟩ := (HF0 W2 (Keeps.refl _ _)).out
  have h1' : ¬ d.around < -1 := by omega
  have h2' : ¬ (i : Int) ≤ d.around := by omega
  rw [h3] at HCH
  have H3 := Lib.hid h3
  clear h3
  have h3 := H3
  clear H3
  go_upto_region 4 with (go_at_call 120; refine HCH.out.mono ?_; rintro e w3 ⟨rfl, hx3⟩; have HX3 := Lib.hid hx3; clear hx3)
  clear x0 x1 x2 x3 x4 y0 y1 y3 y4 y5 y6 y7 y8 y9 y10 h1' h2'
  obtain ⟨⟨x0, x1, x2, x3, x4⟩, y0, y1, y3, y4, y5, y6, y7, y8, y9, y10⟩ := (HF0 w3 HX3.out).out
  rw [HL.out] at y1 hcl
  have hgt : (1 : Int) < (m : Int) + 2 := by omega
  go_upto_region 7 with fail
  -- the descriptor ahead
  have hlv := levelB_in (chainB_level_of h3.out (k := m) (by rw [HL.out]; omega))
  obtain ⟨E, hE⟩ : ∃ E, d.chain.getD m 0 = E := ⟨_, rfl⟩
  rw [hE] at hlv
  obtain ⟨ei, rfl⟩ : ∃ ei : Nat, E = (ei : Int) := ⟨E.toNat, by omega⟩
  have hei : ei < xs.length := by have := HN.out; omega
  obtain ⟨y, hy⟩ : ∃ y, xs[ei]? = some y := ⟨_, List.getElem?_eq_getElem hei⟩
  have hyd := H.out.de_at hy
  obtain ⟨cad, rfl⟩ : ∃ a, ca = some a := by
    cases ca with
    | none => have := Hc1.out rfl; have h9 := HL.out; rw [this] at h9; simp at h9
    | some a => exact ⟨a, rfl⟩
  have HRC := Lib.hid HD.out.chain
  obtain ⟨D, hDd⟩ : ∃ D, ad.add (ei * 11) = D := ⟨_, rfl⟩
  have hBF : beforeD c d = wrap64 (y.d.offset + y.d.cells) := by
    unfold beforeD
    rw [if_pos (by rw [HL.out]; omega), HL.out, Nat.add_sub_cancel, hE, hyd]
  obtain ⟨BF, hBFe⟩ : ∃ BF, wrap64 (y.d.offset + y.d.cells) = BF := ⟨_, rfl⟩
  have HBF : Hid (beforeD c d = BF) := Lib.hid (hBF.trans hBFe)
  have HE := Lib.hid hE
  have hHS : ∀ V, Ex W2 V → Hid (V.cell? ⟨b0, 0, none⟩ = some (.slice (some ad) xs.length dc) ∧ V.cell? ⟨b1, 1, none⟩ = some (.slice (some cad) (m + 2) cc) ∧ V.cell? (cad.add m) = some (.int .i64 ei) ∧ V.cell? D = some (.int .i64 y.d.around) ∧ V.cell? ⟨D.block, D.off + 1, none⟩ = some y.chain ∧ V.cell? ⟨D.block, D.off + 2, none⟩ = some y.up ∧ V.cell? ⟨D.block, D.off + 3, none⟩ = some (.int .i64 y.d.offset) ∧ V.cell? ⟨D.block, D.off + 4, none⟩ = some (.int .i64 y.d.cells) ∧ V.cell? ⟨D.block, D.off + 5, none⟩ = some y.virts ∧ V.cell? ⟨D.block, D.off + 6, none⟩ = some (.int .i64 y.d.init) ∧ V.cell? ⟨D.block, D.off + 7, none⟩ = some (.int .i64 y.d.enter) ∧ V.cell? ⟨D.block, D.off + 8, none⟩ = some (.int .i64 y.d.do_) ∧ V.cell? ⟨D.block, D.off + 9, none⟩ = some (.int .i64 y.d.exit) ∧ V.cell? ⟨D.block, D.off + 10, none⟩ = some (.int .i64 y.d.stack)) := fun V hV => Lib.hid (by
    obtain ⟨⟨u0, -⟩, -, u1, -⟩ := (HF0 V hV).out
    rw [HL.out] at u1
    have u2 := ((HRC.out.ext HX2.out).ext hV).int_at (k := m) (by rw [HL.out]; omega)
    rw [HE.out] at u2
    exact ⟨u0, u1, u2, ((H.out.ds.ext HX2.out).ext hV).deCells hy hDd⟩)
  have HHS := Lib.hid hHS
  have HDd := Lib.hid hDd
  have Hy := Lib.hid hy
  have hYD := H.out.de y (List.mem_of_getElem? hy)
  clear hlv hE hBF hyd hHS hy
  clear x0 x1 x2 x3 x4 y0 y1 y3 y4 y5 y6 y7 y8 y9 y10
  obtain ⟨yd, yc, yu, yv⟩ := y
  simp only at hBFe HHS
  obtain ⟨yca, ycc, eyc, -⟩ := id hYD.chain
  obtain ⟨yua, yuc, eyu, -⟩ := id hYD.up
  obtain ⟨yva, yvc, eyv, -⟩ := id hYD.virts
  simp only at eyc eyu eyv
  subst eyc; subst eyu; subst eyv
  generalize hq1 : yd.chain.length = yn1 at *
  generalize hq2 : yd.up.length = yn2 at *
  generalize hq3 : yd.virts.length = yn3 at *
  clear hYD hq1 hq2 hq3
  have hmb : (m : Int) + 2 ≤ 1000000 := by omega
  have hwm : IntKind.i64.wrap (m : Int) = (m : Int) := wrap_small (by omega) (by omega)
  have hml : (m : Int) < (m : Int) + 2 := by omega
  have heil : (ei : Int) < (xs.length : Int) := by omega
  refine region_S_plain (n := 3) (fun V => V.cell? ⟨b0, 0, none⟩ = some (.slice (some ad) xs.length dc) ∧ V.cell? ⟨b1, 1, none⟩ = some (.slice (some cad) (m + 2) cc) ∧ V.cell? (cad.add m) = some (.int .i64 ei) ∧ V.cell? D = some (.int .i64 yd.around) ∧ V.cell? ⟨D.block, D.off + 1, none⟩ = some (.slice yca yn1 ycc) ∧ V.cell? ⟨D.block, D.off + 2, none⟩ = some (.slice yua yn2 yuc) ∧ V.cell? ⟨D.block, D.off + 3, none⟩ = some (.int .i64 yd.offset) ∧ V.cell? ⟨D.block, D.off + 4, none⟩ = some (.int .i64 yd.cells) ∧ V.cell? ⟨D.block, D.off + 5, none⟩ = some (.slice yva yn3 yvc) ∧ V.cell? ⟨D.block, D.off + 6, none⟩ = some (.int .i64 yd.init) ∧ V.cell? ⟨D.block, D.off + 7, none⟩ = some (.int .i64 yd.enter) ∧ V.cell? ⟨D.block, D.off + 8, none⟩ = some (.int .i64 yd.do_) ∧ V.cell? ⟨D.block, D.off + 9, none⟩ = some (.int .i64 yd.exit) ∧ V.cell? ⟨D.block, D.off + 10, none⟩ = some (.int .i64 yd.stack)) 11 (by kernel_rfl) ?_
  have HS := HHS.out w3.drew HX3.out.drew
  refine anyS_quiet (a2 := ?a0) 0 rfl rfl rfl (by kernel_rfl) (by kernel_rfl) (by kernel_rfl) (by kernel_rfl) (by kernel_rfl) (by kernel_rfl) (fun _ _ _ _ h => h) HS.out ?h0 ?k0
  case h0 => intro W hW K hK; obtain ⟨d0, d1, d2, d3, d4, d5, d6, d7, d8, d9, d10, d11, d12, d13⟩ := hW; go_simp; exact hK
  refine anyS_quiet (a2 := ?a1) 1 rfl rfl rfl (by kernel_rfl) (by kernel_rfl) (by kernel_rfl) (by kernel_rfl) (by kernel_rfl) (by kernel_rfl) (fun _ _ _ _ h => h) HS.out ?h1 ?k1
  case h1 => intro W hW K hK; obtain ⟨d0, d1, d2, d3, d4, d5, d6, d7, d8, d9, d10, d11, d12, d13⟩ := hW; go_simp; exact hK
  refine anyS_quiet (a2 := ?a2) 2 rfl rfl rfl (by kernel_rfl) (by kernel_rfl) (by kernel_rfl) (by kernel_rfl) (by kernel_rfl) (by kernel_rfl) (fun _ _ _ _ h => h) HS.out ?h2 ?k2
  case h2 => intro W hW K hK; obtain ⟨d0, d1, d2, d3, d4, d5, d6, d7, d8, d9, d10, d11, d12, d13⟩ := hW; go_simp; exact hK
  refine anyS_quiet (a2 := ?a3) 3 rfl rfl rfl (by kernel_rfl) (by kernel_rfl) (by kernel_rfl) (by kernel_rfl) (by kernel_rfl) (by kernel_rfl) (fun _ _ _ _ h => h) HS.out ?h3 ?k3
  case h3 => intro W hW K hK; obtain ⟨d0, d1, d2, d3, d4, d5, d6, d7, d8, d9, d10, d11, d12, d13⟩ := hW; go_simp; exact hK
  refine anyS_quiet (a2 := ?a4) 4 rfl rfl rfl (by kernel_rfl) (by kernel_rfl) (by kernel_rfl) (by kernel_rfl) (by kernel_rfl) (by kernel_rfl) (fun _ _ _ _ h => h) HS.out ?h4 ?k4
  case h4 => intro W hW K hK; obtain ⟨d0, d1, d2, d3, d4, d5, d6, d7, d8, d9, d10, d11, d12, d13⟩ := hW; go_simp; exact hK
  refine anyS_quiet (a2 := ?a5) 5 rfl rfl rfl (by kernel_rfl) (by kernel_rfl) (by kernel_rfl) (by kernel_rfl) (by kernel_rfl) (by kernel_rfl) (fun _ _ _ _ h => h) HS.out ?h5 ?k5
  case h5 => intro W hW K hK; obtain ⟨d0, d1, d2, d3, d4, d5, d6, d7, d8, d9, d10, d11, d12, d13⟩ := hW; go_simp; exact hK
  refine anyS_quiet (a2 := ?a6) 6 rfl rfl rfl (by kernel_rfl) (by kernel_rfl) (by kernel_rfl) (by kernel_rfl) (by kernel_rfl) (by kernel_rfl) (fun _ _ _ _ h => h) HS.out ?h6 ?k6
  case h6 => intro W hW K hK; obtain ⟨d0, d1, d2, d3, d4, d5, d6, d7, d8, d9, d10, d11, d12, d13⟩ := hW; go_simp; exact hK
  refine anyS_quiet (a2 := ?a7) 7 rfl rfl rfl (by kernel_rfl) (by kernel_rfl) (by kernel_rfl) (by kernel_rfl) (by kernel_rfl) (by kernel_rfl) (fun _ _ _ _ h => h) HS.out ?h7 ?k7
  case h7 => intro W hW K hK; obtain ⟨d0, d1, d2, d3, d4, d5, d6, d7, d8, d9, d10, d11, d12, d13⟩ := hW; go_simp; exact hK
  refine anyS_quiet (a2 := ?a8) 8 rfl rfl rfl (by kernel_rfl) (by kernel_rfl) (by kernel_rfl) (by kernel_rfl) (by kernel_rfl) (by kernel_rfl) (fun _ _ _ _ h => h) HS.out ?h8 ?k8
  case h8 => intro W hW K hK; obtain ⟨d0, d1, d2, d3, d4, d5, d6, d7, d8, d9, d10, d11, d12, d13⟩ := hW; go_simp; exact hK
  refine anyS_quiet (a2 := ?a9) 9 rfl rfl rfl (by kernel_rfl) (by kernel_rfl) (by kernel_rfl) (by kernel_rfl) (by kernel_rfl) (by kernel_rfl) (fun _ _ _ _ h => h) HS.out ?h9 ?k9
  case h9 => intro W hW K hK; obtain ⟨d0, d1, d2, d3, d4, d5, d6, d7, d8, d9, d10, d11, d12, d13⟩ := hW; go_simp; exact hK
  refine anyS_only 10 rfl (by kernel_rfl) ?_
  gi_wp2
  refine And.intro (HHS.out _ (HX3.out.alloc _).drew).out ?_
  obtain ⟨d0, d1, d2, d3, d4, d5, d6, d7, d8, d9, d10, d11, d12, d13⟩ := HS.out
  refine anyS_only 11 rfl (by kernel_rfl) ?_
  gi_wp2
  refine And.intro (by kernel_rfl) ?_
  clear d0 d1 d2 d3 d4 d5 d6 d7 d8 d9 d10 d11 d12 d13 HS
  obtain ⟨W5, hW5⟩ : ∃ W5, (w3.alloc (.cells #[.int .i64 yd.around, .slice yca yn1 ycc, .slice yua yn2 yuc, .int .i64 yd.offset, .int .i64 yd.cells, .slice yva yn3 yvc, .int .i64 yd.init, .int .i64 yd.enter, .int .i64 yd.do_, .int .i64 yd.exit, .int .i64 yd.stack] 50)).drew = W5 := ⟨_, rfl⟩
  obtain ⟨b2, hb2⟩ : ∃ b2, w3.heap.size = b2 := ⟨_, rfl⟩
  have HW : Hid (Ex W2 W5) := Lib.hid (by rw [← hW5]; exact (HX3.out.alloc _).drew)
  have hB2 : Blk W5 b2 #[.int .i64 yd.around, .slice yca yn1 ycc, .slice yua yn2 yuc, .int .i64 yd.offset, .int .i64 yd.cells, .slice yva yn3 yvc, .int .i64 yd.init, .int .i64 yd.enter, .int .i64 yd.do_, .int .i64 yd.exit, .int .i64 yd.stack] 50 := by rw [← hW5, ← hb2]; exact (Blk.new w3 _ _).drew
  have a3 : W5.cell? ⟨b2, 3, none⟩ = some (.int .i64 yd.offset) := (hB2.cell 3).trans rfl
  have a4 : W5.cell? ⟨b2, 4, none⟩ = some (.int .i64 yd.cells) := (hB2.cell 4).trans rfl
  rw [hW5, hb2]
  clear hW5 hb2 hB2
  obtain ⟨⟨x0, x1, x2, x3, x4⟩, y0, y1, y3, y4, y5, y6, y7, y8, y9, y10⟩ := (HF0 W5 HW.out).out
  rw [HL.out] at y1
  clear hwm heil hml
  go_upto_region 9 with fail
  rw [hBFe]
  clear hBFe a3 a4 hei hmb hcl HHS HDd Hy HE hgt
  obtain ⟨N, hN2⟩ : ∃ N, m + 2 = N := ⟨_, rfl⟩
  have hN3 : (m : Int) + 2 = (N : Int) := by omega
  rw [hN2] at HL y1 ⊢
  rw [hN3]
  clear hN2 hN3 hDd
  generalize (Value.pointer (some (cad.add m))) = G3
  generalize (Value.int .i64 (m : Int)) = G4
  generalize (Value.int .i64 (ei : Int)) = G5
  generalize Value.agg #[.int .i64 yd.around, .slice yca yn1 ycc, .slice yua yn2 yuc, .int .i64 yd.offset, .int .i64 yd.cells, .slice yva yn3 yvc, .int .i64 yd.init, .int .i64 yd.enter, .int .i64 yd.do_, .int .i64 yd.exit, .int .i64 yd.stack] = G1
  generalize Value.agg #[.int .i64 d.around, .slice (some cad) d.chain.length cc, .slice ua d.up.length uc, .int .i64 d.offset, .int .i64 d.cells, .slice va d.virts.length vc, .int .i64 d.init, .int .i64 d.enter, .int .i64 d.do_, .int .i64 d.exit, .int .i64 d.stack] = G2
  by_cases q1 : d.offset < 0
  · have e : B = false := by rw [← HB.out]; exact descB_offset1 Hde.out (by omega)
    subst e
    go_wp2_with fail
    go_ret
    exact ⟨rfl, HX2.out.trans HW.out⟩
  by_cases q2 : d.cells < 0
  · have e : B = false := by rw [← HB.out]; exact descB_cells1 Hde.out (by omega)
    subst e
    go_wp2_with fail
    go_ret
    exact ⟨rfl, HX2.out.trans HW.out⟩
  by_cases q3 : 1500 < d.offset
  · have e : B = false := by rw [← HB.out]; exact descB_offset2 Hde.out (by omega)
    subst e
    go_wp2_with fail
    go_ret
    exact ⟨rfl, HX2.out.trans HW.out⟩
  by_cases q4 : 1500 - d.offset < d.cells
  · have e : B = false := by rw [← HB.out]; exact descB_cells2 Hde.out (by omega)
    subst e
    go_wp2_with fail
    go_ret
    exact ⟨rfl, HX2.out.trans HW.out⟩
  by_cases q5 : d.offset = BF
  case neg =>
    have e : B = false := by rw [← HB.out]; exact descB_before Hde.out (by rw [HBF.out]; exact q5)
    subst e
    have q6 : (d.offset != BF) = true := by simpa using q5
    go_wp2_with fail
    go_ret
    exact ⟨rfl, HX2.out.trans HW.out⟩
  have q5' : (d.offset != BF) = false := by simpa using q5
  have HQ5 := Lib.hid q5
  clear q5
  by_cases q6 : 2000 < (d.virts.length : Int)
  · have e : B = false := by rw [← HB.out]; exact descB_virts Hde.out (by omega)
    subst e
    go_wp2_with fail
    go_ret
    exact ⟨rfl, HX2.out.trans HW.out⟩
  go_wp2_with fail
  clear q5' x0 x1 x2 x3 x4 y0 y1 y3 y4 y5 y6 y7 y8 y9 y10
  go_loopw [89] (fun s wr => ∃ k : Nat, k ≤ d.virts.length ∧ s = .int .i64 k ∧ Hid (Ex W2 wr) ∧ Hid (∀ j, j < k → virtB c d j = true)) (fun s wr => d.virts.length - (intOf s).toNat)
  case atStart => exact ⟨0, Nat.zero_le _, rfl, HW.out, fun j hj => by omega⟩
  case round =>
    obtain ⟨k, hk, rfl, HX, HP⟩ := hrel
    by_cases hlt : k < d.virts.length
    case pos =>
      obtain ⟨vad, rfl⟩ : ∃ a, va = some a := by
        cases va with
        | none => have := Hv1.out rfl; rw [this] at hlt; simp at hlt
        | some a => exact ⟨a, rfl⟩
      have hRV := HD.out.virts
      simp only at hRV
      have hRVw := (hRV.ext HX2.out).ext HX.out
      obtain ⟨VA, hVA⟩ : ∃ VA, vad.add (k * 4) = VA := ⟨_, rfl⟩
      obtain ⟨v0, v1, v2, v3⟩ := hRVw.vtCells hlt hVA
      obtain ⟨v, hv⟩ : ∃ v, d.virts.getD k default = v := ⟨_, rfl⟩
      rw [hv] at v0 v1 v2 v3
      obtain ⟨W4, hW4⟩ : ∃ W4, wr.alloc (.cells (encV v).toArray 88) = W4 := ⟨_, rfl⟩
      obtain ⟨bv, hbv⟩ : ∃ bv, wr.heap.size = bv := ⟨_, rfl⟩
      have hX4 : Ex wr W4 := by rw [← hW4]; exact (Keeps.refl _ wr).alloc _
      have hBv : Blk W4 bv (encV v).toArray 88 := by rw [← hW4, ← hbv]; exact Blk.new wr _ _
      unfold encV at hW4 hBv
      obtain ⟨⟨x0, x1, x2, x3, x4⟩, y0, y1, y3, y4, y5, y6, y7, y8, y9, y10⟩ := (HF0 wr HX.out).out
      go_upto_region 14 with fail
      try rw [hW4]
      try rw [hbv]
      clear x0 x1 x2 x3 x4 y0 y1 y3 y4 y5 y6 y7 y8 y9 y10 v0 v1 v2 v3
      obtain ⟨⟨x0, x1, x2, x3, x4⟩, y0, y1, y3, y4, y5, y6, y7, y8, y9, y10⟩ := (HF0 W4 (HX.out.trans hX4)).out
      rw [HL.out] at y1
      have z0 : W4.cell? ⟨bv, 0, none⟩ = some (.int .i64 v.id) := (hBv.cell 0).trans rfl
      have z1 : W4.cell? ⟨bv, 1, none⟩ = some (.int .i64 v.part) := (hBv.cell 1).trans rfl
      have z2 : W4.cell? ⟨bv, 2, none⟩ = some (.int .i64 v.level) := (hBv.cell 2).trans rfl
      have z3 : W4.cell? ⟨bv, 3, none⟩ = some (.int .i64 v.desc) := (hBv.cell 3).trans rfl
      have HXW := Lib.hid (HX.out.trans hX4)
      have hRV4 := hRVw.ext hX4
      have Hv := Lib.hid hv
      have hvB : virtB c d k = (decide (0 ≤ v.id) && decide (v.id < 2000) && (decide (k = 0) || decide ((d.virts.getD (k - 1) default).id < v.id)) && decide (0 ≤ v.part) && decide (v.part < ((N : Nat) : Int)) && decide (0 ≤ v.level) && decide (v.level ≤ 2000) && decide (-1 ≤ v.desc) && decide (v.desc < (c.descs.length : Nat))) := by
        unfold virtB; rw [Hv.out, HL.out]; try rfl
      have Hbad : Hid (∀ P, virtB c d k = P → P = false → B = false) := Lib.hid (fun P h1 h2 => by rw [← HB.out]; exact descB_virt Hde.out hlt (h1.trans h2))
      have Hnew : Hid (virtB c d k = true → ∀ j, j < k + 1 → virtB c d j = true) := Lib.hid (fun h j hj => by
        by_cases e : j = k
        · subst e; exact h
        · exact HP.out j (by omega))
      have HvB := Lib.hid hvB
      clear hvB hW4 hbv hX4 hBv hRV hRVw hVA hv
      by_cases r1 : v.id < 0
      · have e : B = false := Hbad.out _ HvB.out (by rw [decide_eq_false (show ¬ 0 ≤ v.id by omega)]; simp)
        subst e
        go_quiet (fail)
        go_wp2_with fail
        go_ret
        exact ⟨rfl, HX2.out.trans (HXW.out.drewN _)⟩
      by_cases r2 : 2000 ≤ v.id
      · have e : B = false := Hbad.out _ HvB.out (by rw [decide_eq_false (show ¬ v.id < 2000 by omega)]; simp)
        subst e
        go_quiet (fail)
        go_wp2_with fail
        go_ret
        exact ⟨rfl, HX2.out.trans (HXW.out.drewN _)⟩
      rcases Nat.eq_zero_or_pos k with r0 | r0
      · subst r0
        clear hRV4
        by_cases r4 : v.part < 0
        · have e : B = false := Hbad.out _ HvB.out (by rw [decide_eq_false (show ¬ 0 ≤ v.part by omega)]; simp)
          subst e
          go_quiet (fail)
          go_wp2_with fail
          go_ret
          exact ⟨rfl, HX2.out.trans (HXW.out.drewN _)⟩
        by_cases r5 : ((N : Nat) : Int) ≤ v.part
        · have e : B = false := Hbad.out _ HvB.out (by rw [decide_eq_false (show ¬ v.part < ((N : Nat) : Int) by omega)]; simp)
          subst e
          go_quiet (fail)
          go_wp2_with fail
          go_ret
          exact ⟨rfl, HX2.out.trans (HXW.out.drewN _)⟩
        by_cases r6 : v.level < 0
        · have e : B = false := Hbad.out _ HvB.out (by rw [decide_eq_false (show ¬ 0 ≤ v.level by omega)]; simp)
          subst e
          go_quiet (fail)
          go_wp2_with fail
          go_ret
          exact ⟨rfl, HX2.out.trans (HXW.out.drewN _)⟩
        by_cases r7 : 2000 < v.level
        · have e : B = false := Hbad.out _ HvB.out (by rw [decide_eq_false (show ¬ v.level ≤ 2000 by omega)]; simp)
          subst e
          go_quiet (fail)
          go_wp2_with fail
          go_ret
          exact ⟨rfl, HX2.out.trans (HXW.out.drewN _)⟩
        by_cases r8 : v.desc < -1
        · have e : B = false := Hbad.out _ HvB.out (by rw [decide_eq_false (show ¬ -1 ≤ v.desc by omega)]; simp)
          subst e
          go_quiet (fail)
          go_wp2_with fail
          go_ret
          exact ⟨rfl, HX2.out.trans (HXW.out.drewN _)⟩
        by_cases r9 : (xs.length : Int) ≤ v.desc
        · have e : B = false := Hbad.out _ HvB.out (by rw [decide_eq_false (show ¬ v.desc < (c.descs.length : Nat) by have := HN.out; omega)]; simp)
          subst e
          go_quiet (fail)
          go_wp2_with fail
          go_ret
          exact ⟨rfl, HX2.out.trans (HXW.out.drewN _)⟩
        have Hok : Hid (virtB c d 0 = true) := Lib.hid (by
          have := HN.out
          rw [HvB.out]; simp; omega)
        go_quiet (fail)
        go_wp2_with fail
        go_roundw
        case rel => exact ⟨0 + 1, by omega, by go_num, HXW.out.drewN _, Hnew.out Hok.out⟩
        case measure => simp [intOf]; omega
      · obtain ⟨kp, rfl⟩ : ∃ kp, k = kp + 1 := ⟨k - 1, by omega⟩
        obtain ⟨VP, hVP⟩ : ∃ VP, vad.add (kp * 4) = VP := ⟨_, rfl⟩
        have z4 := (hRV4.vtCells (show kp < d.virts.length by omega) hVP).1
        rw [Nat.add_sub_cancel] at HvB
        obtain ⟨vp, hvp⟩ : ∃ vp, (d.virts.getD kp default).id = vp := ⟨_, rfl⟩
        rw [hvp] at z4 HvB
        clear hRV4 hvp
        have rpos : (0 : Int) < (kp : Int) + 1 := by omega
        by_cases r3 : v.id ≤ vp
        · have e : B = false := Hbad.out _ HvB.out (by rw [decide_eq_false (show ¬ vp < v.id by omega), decide_eq_false (show ¬ kp + 1 = 0 by omega)]; simp)
          subst e
          go_quiet (fail)
          go_wp2_with fail
          go_ret
          exact ⟨rfl, HX2.out.trans (HXW.out.drewN _)⟩
        by_cases r4 : v.part < 0
        · have e : B = false := Hbad.out _ HvB.out (by rw [decide_eq_false (show ¬ 0 ≤ v.part by omega)]; simp)
          subst e
          go_quiet (fail)
          go_wp2_with fail
          go_ret
          exact ⟨rfl, HX2.out.trans (HXW.out.drewN _)⟩
        by_cases r5 : ((N : Nat) : Int) ≤ v.part
        · have e : B = false := Hbad.out _ HvB.out (by rw [decide_eq_false (show ¬ v.part < ((N : Nat) : Int) by omega)]; simp)
          subst e
          go_quiet (fail)
          go_wp2_with fail
          go_ret
          exact ⟨rfl, HX2.out.trans (HXW.out.drewN _)⟩
        by_cases r6 : v.level < 0
        · have e : B = false := Hbad.out _ HvB.out (by rw [decide_eq_false (show ¬ 0 ≤ v.level by omega)]; simp)
          subst e
          go_quiet (fail)
          go_wp2_with fail
          go_ret
          exact ⟨rfl, HX2.out.trans (HXW.out.drewN _)⟩
        by_cases r7 : 2000 < v.level
        · have e : B = false := Hbad.out _ HvB.out (by rw [decide_eq_false (show ¬ v.level ≤ 2000 by omega)]; simp)
          subst e
          go_quiet (fail)
          go_wp2_with fail
          go_ret
          exact ⟨rfl, HX2.out.trans (HXW.out.drewN _)⟩
        by_cases r8 : v.desc < -1
        · have e : B = false := Hbad.out _ HvB.out (by rw [decide_eq_false (show ¬ -1 ≤ v.desc by omega)]; simp)
          subst e
          go_quiet (fail)
          go_wp2_with fail
          go_ret
          exact ⟨rfl, HX2.out.trans (HXW.out.drewN _)⟩
        by_cases r9 : (xs.length : Int) ≤ v.desc
        · have e : B = false := Hbad.out _ HvB.out (by rw [decide_eq_false (show ¬ v.desc < (c.descs.length : Nat) by have := HN.out; omega)]; simp)
          subst e
          go_quiet (fail)
          go_wp2_with fail
          go_ret
          exact ⟨rfl, HX2.out.trans (HXW.out.drewN _)⟩
        have Hok : Hid (virtB c d (kp + 1) = true) := Lib.hid (by
          have := HN.out
          rw [HvB.out]; simp; omega)
        go_quiet (fail)
        go_wp2_with fail
        go_roundw
        case rel => exact ⟨(kp + 1) + 1, by omega, by go_num, HXW.out.drewN _, Hnew.out Hok.out⟩
        case measure => simp [intOf]; omega
    case neg =>
      have : k = d.virts.length := by omega
      subst this
      obtain ⟨⟨x0, x1, x2, x3, x4⟩, y0, y1, y3, y4, y5, y6, y7, y8, y9, y10⟩ := (HF0 wr HX.out).out
      go_wp2_with fail
      clear x0 x1 x2 x3 x4 y0 y1 y3 y4 y5 y6 y7 y8 y9 y10
      have HVV := Lib.hid HP.out
      go_loopw [164] (fun s wq => ∃ k : Nat, k ≤ 4 ∧ s = .int .i64 k ∧ Hid (Ex W2 wq) ∧ Hid ((0 < k → placeB c d.init = true) ∧ (1 < k → placeB c d.enter = true) ∧ (2 < k → placeB c d.do_ = true) ∧ (3 < k → placeB c d.exit = true))) (fun s wq => 4 - (intOf s).toNat)
      case atStart => exact ⟨0, Nat.zero_le _, rfl, HX.out, ⟨fun h => by omega, fun h => by omega, fun h => by omega, fun h => by omega⟩⟩
      case round =>
        obtain ⟨k, hk, rfl, HXq, HQ⟩ := hrel
        obtain ⟨⟨x0, x1, x2, x3, x4⟩, y0, y1, y3, y4, y5, y6, y7, y8, y9, y10⟩ := (HF0 wr HXq.out).out
        have HPL : Hid (∀ n, Calls Tryz.prog 121 #[.agg #[.slice (some ad) xs.length dc, .slice la c.labels.length lc, .slice ta c.texts.length tc, .slice ra c.reals.length rc, .slice ia c.instrs.length ic], .int .i64 n] wr fun e w' => e = .returned (.bool (placeB c n)) ∧ Ex wr w') := Lib.hid (fun n => isPlace_any _ _ _ _ _ _ _ _ _ _ _ _ _ _ _ hil n wr)
        have hix := idx4 d.init d.enter d.do_ d.exit wr
        obtain ⟨i0, i1, i2, i3⟩ := hix
        have hkc : k = 0 ∨ k = 1 ∨ k = 2 ∨ k = 3 ∨ k = 4 := by omega
        rcases hkc with rfl | rfl | rfl | rfl | rfl
        · have HF := Lib.hid (HPL.out d.init)
          clear HPL
          rcases (Bool.eq_false_or_eq_true (placeB c d.init)).symm with hp | hp
          · rw [hp] at HF
            have e : B = false := by rw [← HB.out]; exact descB_place Hde.out (by simp [hp])
            subst e
            go_wp2_with (go_at_call 121; refine HF.out.mono ?_; rintro e w7 ⟨rfl, hx7⟩; have HX7 := Lib.hid hx7; clear hx7)
            go_ret
            exact ⟨rfl, HX2.out.trans (HXq.out.trans HX7.out)⟩
          · rw [hp] at HF
            have HQ2 : Hid ((0 < 0 + 1 → placeB c d.init = true) ∧ (1 < 0 + 1 → placeB c d.enter = true) ∧ (2 < 0 + 1 → placeB c d.do_ = true) ∧ (3 < 0 + 1 → placeB c d.exit = true)) := Lib.hid (by
              have := HQ.out
              simp at this ⊢; simp [hp, this])
            clear hp
            go_wp2_with (go_at_call 121; refine HF.out.mono ?_; rintro e w7 ⟨rfl, hx7⟩; have HX7 := Lib.hid hx7; clear hx7)
            go_roundw
            case rel => exact ⟨0 + 1, by omega, rfl, HXq.out.trans HX7.out, HQ2⟩
            case measure => simp [intOf]
        · have HF := Lib.hid (HPL.out d.enter)
          clear HPL
          rcases (Bool.eq_false_or_eq_true (placeB c d.enter)).symm with hp | hp
          · rw [hp] at HF
            have e : B = false := by rw [← HB.out]; exact descB_place Hde.out (by simp [hp])
            subst e
            go_wp2_with (go_at_call 121; refine HF.out.mono ?_; rintro e w7 ⟨rfl, hx7⟩; have HX7 := Lib.hid hx7; clear hx7)
            go_ret
            exact ⟨rfl, HX2.out.trans (HXq.out.trans HX7.out)⟩
          · rw [hp] at HF
            have HQ2 : Hid ((0 < 1 + 1 → placeB c d.init = true) ∧ (1 < 1 + 1 → placeB c d.enter = true) ∧ (2 < 1 + 1 → placeB c d.do_ = true) ∧ (3 < 1 + 1 → placeB c d.exit = true)) := Lib.hid (by
              have := HQ.out
              simp at this ⊢; simp [hp, this])
            clear hp
            go_wp2_with (go_at_call 121; refine HF.out.mono ?_; rintro e w7 ⟨rfl, hx7⟩; have HX7 := Lib.hid hx7; clear hx7)
            go_roundw
            case rel => exact ⟨1 + 1, by omega, rfl, HXq.out.trans HX7.out, HQ2⟩
            case measure => simp [intOf]
        · have HF := Lib.hid (HPL.out d.do_)
          clear HPL
          rcases (Bool.eq_false_or_eq_true (placeB c d.do_)).symm with hp | hp
          · rw [hp] at HF
            have e : B = false := by rw [← HB.out]; exact descB_place Hde.out (by simp [hp])
            subst e
            go_wp2_with (go_at_call 121; refine HF.out.mono ?_; rintro e w7 ⟨rfl, hx7⟩; have HX7 := Lib.hid hx7; clear hx7)
            go_ret
            exact ⟨rfl, HX2.out.trans (HXq.out.trans HX7.out)⟩
          · rw [hp] at HF
            have HQ2 : Hid ((0 < 2 + 1 → placeB c d.init = true) ∧ (1 < 2 + 1 → placeB c d.enter = true) ∧ (2 < 2 + 1 → placeB c d.do_ = true) ∧ (3 < 2 + 1 → placeB c d.exit = true)) := Lib.hid (by
              have := HQ.out
              simp at this ⊢; simp [hp, this])
            clear hp
            go_wp2_with (go_at_call 121; refine HF.out.mono ?_; rintro e w7 ⟨rfl, hx7⟩; have HX7 := Lib.hid hx7; clear hx7)
            go_roundw
            case rel => exact ⟨2 + 1, by omega, rfl, HXq.out.trans HX7.out, HQ2⟩
            case measure => simp [intOf]
        · have HF := Lib.hid (HPL.out d.exit)
          clear HPL
          rcases (Bool.eq_false_or_eq_true (placeB c d.exit)).symm with hp | hp
          · rw [hp] at HF
            have e : B = false := by rw [← HB.out]; exact descB_place Hde.out (by simp [hp])
            subst e
            go_wp2_with (go_at_call 121; refine HF.out.mono ?_; rintro e w7 ⟨rfl, hx7⟩; have HX7 := Lib.hid hx7; clear hx7)
            go_ret
            exact ⟨rfl, HX2.out.trans (HXq.out.trans HX7.out)⟩
          · rw [hp] at HF
            have HQ2 : Hid ((0 < 3 + 1 → placeB c d.init = true) ∧ (1 < 3 + 1 → placeB c d.enter = true) ∧ (2 < 3 + 1 → placeB c d.do_ = true) ∧ (3 < 3 + 1 → placeB c d.exit = true)) := Lib.hid (by
              have := HQ.out
              simp at this ⊢; simp [hp, this])
            clear hp
            go_wp2_with (go_at_call 121; refine HF.out.mono ?_; rintro e w7 ⟨rfl, hx7⟩; have HX7 := Lib.hid hx7; clear hx7)
            go_roundw
            case rel => exact ⟨3 + 1, by omega, rfl, HXq.out.trans HX7.out, HQ2⟩
            case measure => simp [intOf]
        · have hd := descB_last Hde.out h1 h2 h3.out (by omega) (by omega) (by omega) (by omega) (HQ5.out.trans HBF.out.symm) (by omega) HVV.out (HQ.out.1 (by omega)) (HQ.out.2.1 (by omega)) (HQ.out.2.2.1 (by omega)) (HQ.out.2.2.2 (by omega))
          by_cases s1 : d.stack < 0
          · have e : B = false := by rw [← HB.out]; exact descB_stack1 Hde.out (by omega)
            subst e
            clear hd
            go_wp2_with fail
            go_ret
            exact ⟨rfl, HX2.out.trans HXq.out⟩
          · have e : B = decide (d.stack ≤ 200) := by rw [← HB.out]; exact hd (by omega)
            subst e
            clear hd
            have s2 : 0 ≤ d.stack := by omega
            go_wp2_with fail
            go_ret
            exact ⟨rfl, HX2.out.trans HXq.out⟩

end Go.Proofs.YtlaepkmnbbgbcaaGreatDoor
/- The shelf's contracts for strings.ContainsFunc and TrimPrefix, laid at this program (written by the kit's lay-shelf and lay-plain, cut down by wip/tools/prune.py). -/
namespace Go.Proofs.YtlaepkmnbbgbcaaGreatDoor
open Go.Shelf Go.RowKit Go.Lib
set_option linter.unusedVariables false

def Sh.laysGw17_ren : Go.Shelf.Ren := ⟨fun | 17 => 178 | 15 => 210 | 20 => 232 | n => n, fun | 9 => 9 | 23 => 223 | 4 => 4 | 3 => 3 | 0 => 0 | 21 => 21 | n => n, fun | n => n⟩
theorem Sh.laysGw17 : Go.Proofs.LaysGw.n17 Tryz.prog Sh.laysGw17_ren := {
  mixed := by kernel_rfl
  f15 := Tryz.func210.trans (congrArg some (by kernel_rfl))
  f17 := Tryz.func178.trans (congrArg some (by kernel_rfl))
  f20 := Tryz.func232.trans (congrArg some (by kernel_rfl))
  t0 := Tryz.underlying0
  a0 := Tryz.isAgg0
  z0 := Tryz.sizeOf0
  v0 := Tryz.zeroValue0
  i0 := by kernel_rfl
  t3 := Tryz.underlying3
  a3 := Tryz.isAgg3
  z3 := Tryz.sizeOf3
  v3 := Tryz.zeroValue3
  i3 := by kernel_rfl
  t4 := Tryz.underlying4
  a4 := Tryz.isAgg4
  z4 := Tryz.sizeOf4
  v4 := Tryz.zeroValue4
  i4 := by kernel_rfl
  t9 := Tryz.underlying9
  a9 := Tryz.isAgg9
  z9 := Tryz.sizeOf9
  v9 := Tryz.zeroValue9
  i9 := by kernel_rfl
  t21 := Tryz.underlying21
  a21 := Tryz.isAgg21
  z21 := Tryz.sizeOf21
  v21 := Tryz.zeroValue21
  i21 := by kernel_rfl
  t23 := Tryz.underlying223
  a23 := Tryz.isAgg223
  z23 := Tryz.sizeOf223
  v23 := Tryz.zeroValue223
  i23 := by kernel_rfl }
open Go.RowKit Go.Lib in
theorem Sh.strings_ContainsFunc (g : Nat) (lb : Array Value) (eg : ∀ args w, (callFunc g args).run Tryz.prog w = .ok (.enter g args) w) (p : Nat → Bool) (s : ByteArray) (w : World) (hp : PredAt Tryz.prog g lb encR p w) :
    Calls Tryz.prog 178 #[.string s, .func (.func g) #[] lb] w fun e w' => e = .returned (.bool (decide (0 ≤ Lib.idxFunc p true s))) ∧ Below w.heap.size w w' := Any.strings_ContainsFunc Sh.laysGw17 g lb eg p s w hp
def Sh.lays101_ren : Go.Shelf.Ren := ⟨fun | 101 => 177 | 208 => 209 | 206 => 184 | n => n, fun | 9 => 9 | 4 => 4 | 3 => 3 | n => n, fun | n => n⟩
theorem Sh.lays101 : Go.Proofs.Lays.n101 Tryz.prog Sh.lays101_ren := {
  mixed := by kernel_rfl
  f101 := Tryz.func177.trans (congrArg some (by kernel_rfl))
  f206 := Tryz.func184.trans (congrArg some (by kernel_rfl))
  f208 := Tryz.func209.trans (congrArg some (by kernel_rfl))
  t3 := Tryz.underlying3
  a3 := Tryz.isAgg3
  z3 := Tryz.sizeOf3
  v3 := Tryz.zeroValue3
  t4 := Tryz.underlying4
  a4 := Tryz.isAgg4
  z4 := Tryz.sizeOf4
  v4 := Tryz.zeroValue4
  t9 := Tryz.underlying9
  a9 := Tryz.isAgg9
  z9 := Tryz.sizeOf9
  v9 := Tryz.zeroValue9 }
open Go.RowKit Go.Lib in
theorem Sh.strings_TrimPrefix (s p : ByteArray) (w : World) :
    Calls Tryz.prog 177 #[.string s, .string p] w fun e w' => e = .returned (.string ⟨(Lib.trimPrefix s.data.toList p.data.toList).toArray⟩) ∧ w' = w := Any.strings_TrimPrefix Sh.lays101 s p w

end Go.Proofs.YtlaepkmnbbgbcaaGreatDoor
/- number.Valid; the checks of operands that are texts. -/
namespace Go.Proofs.YtlaepkmnbbgbcaaGreatDoor
open Go.RowKit Go.Instr
set_option linter.unusedVariables false
set_option linter.unusedSimpArgs false
attribute [local go_sem] Oper.semAt_some

/-- No digit. -/
def noDigit (x : Nat) : Bool := !(decide (48 ≤ x) && decide (x ≤ 57))
theorem valid1_any (x : Nat) (w : World) : Calls Tryz.prog 179 #[.int .i32 x] w fun e w' => e = .returned (.bool (noDigit x)) ∧ w' = w := by
  by_cases k1 : (x : Int) < 48
  · go_enter Tryz.func179, Tryz.ntmps179
    go_wp2
    go_ret
    have e : noDigit x = true := by simp only [noDigit, Bool.not_eq_true', Bool.and_eq_false_iff, decide_eq_false_iff_not]; omega
    rw [e]; exact ⟨rfl, rfl⟩
  · go_enter Tryz.func179, Tryz.ntmps179
    go_wp2
    go_ret
    have e : noDigit x = decide (57 < (x : Int)) := by
      rw [Bool.eq_iff_iff]; simp only [noDigit, Bool.not_eq_true', Bool.and_eq_false_iff, decide_eq_false_iff_not, decide_eq_true_eq]; omega
    rw [e]; exact ⟨rfl, rfl⟩
theorem enters_valid1 (args : Array Value) (w : World) : (callFunc 179 args).run Tryz.prog w = .ok (.enter 179 args) w := enters_of Tryz.func179 (by kernel_rfl) rfl args w
/-- Where all bytes are ASCII, runes are bytes. -/
theorem idx_ascii (p : Nat → Bool) (s : ByteArray) (ha : ∀ b ∈ s.data.toList, b.toNat < 128) : ∀ f pos, s.size ≤ pos + f → (0 ≤ Lib.idxFuncFrom p true s f pos ↔ ((s.data.toList.drop pos).any fun b => p b.toNat) = true) := by
  intro f
  induction f with
  | zero =>
    intro pos h
    rw [List.drop_eq_nil_of_le (by rw [bytes_len]; omega)]
    simp [Lib.idxFuncFrom]
  | succ f ih =>
    intro pos h
    unfold Lib.idxFuncFrom
    by_cases hp : pos < s.size
    · have hl : pos < s.data.toList.length := by rw [bytes_len]; exact hp
      have hb : s[pos]'hp = s.data.toList[pos] := by simp [ByteArray.getElem_eq_getElem_data]
      have hd := decode_ascii s pos hp (by rw [hb]; exact ha _ (List.getElem_mem hl))
      rw [if_pos hp, hd, hb]
      rw [List.drop_eq_getElem_cons hl, List.any_cons]
      simp only
      cases hq : p s.data.toList[pos].toNat with
      | true => simp
      | false =>
        rw [if_neg (by simp), ih (pos + 1) (by omega)]
        simp
    · rw [if_neg hp, List.drop_eq_nil_of_le (by rw [bytes_len]; omega)]
      simp
theorem trim_is (l : List UInt8) : Lib.trimPrefix l [45] = trimMinus l := by
  cases l with
  | nil => rfl
  | cons b r =>
    unfold trimMinus Lib.trimPrefix Lib.hasPrefix
    by_cases h : b = 45
    · subst h; simp
    · have h' : ¬ 45 = b := fun e => h e.symm
      simp [h, h']

theorem intB_of (s : ByteArray) {D : List UInt8} (hD : trimMinus s.data.toList = D) : intB s = (!D.isEmpty && decide (D.length ≤ 200) && !(D.head? == some 48 && s.data.toList != [48]) && D.all fun b => decide (48 ≤ b.toNat) && decide (b.toNat ≤ 57)) := by
  unfold intB; rw [hD]
set_option maxRecDepth 100000 in
set_option maxHeartbeats 1000000 in
theorem number_any (s : ByteArray) (hs : s.size ≤ 1000000) (ha : ∀ b ∈ s.data.toList, b.toNat < 128) (w : World) : Calls Tryz.prog 141 #[.string s] w fun e w' => e = .returned (.bool (intB s)) ∧ Ex w w' := by
  have ht := Sh.strings_TrimPrefix s ⟨#[45]⟩ w
  rw [show (⟨#[45]⟩ : ByteArray).data.toList = [45] from rfl, trim_is] at ht
  obtain ⟨D, hD⟩ : ∃ D, trimMinus s.data.toList = D := ⟨_, rfl⟩
  have hDl : D.length ≤ 1000000 := by
    have h0 : D.length ≤ s.data.toList.length := by
      rw [← hD]
      cases s.data.toList with
      | nil => simp [trimMinus]
      | cons b r => by_cases hb : b = 45 <;> simp [trimMinus, hb]
    rw [bytes_len] at h0; omega
  have hDa : ∀ b ∈ D, b.toNat < 128 := by
    intro b hb
    refine ha b ?_
    rw [← hD] at hb
    revert hb
    cases s.data.toList with
    | nil => simp [trimMinus]
    | cons c r =>
      by_cases hc : c = 45
      · simp only [trimMinus, if_pos hc]; intro h; exact List.mem_cons_of_mem _ h
      · simp only [trimMinus, if_neg hc]; exact id
  have hi := intB_of s hD
  rw [hD] at ht
  generalize hB : intB s = B at hi ⊢
  have HT := Lib.hid ht; have HI := Lib.hid hi
  clear ht hi hD hB
  cases D with
  | nil =>
    have e : B = false := by rw [HI.out]; rfl
    subst e
    go_enter Tryz.func141, Tryz.ntmps141
    go_wp2_with (go_at_call 177; refine HT.out.mono ?_; rintro e w2 ⟨rfl, rfl⟩)
    go_ret
    exact ⟨rfl, Keeps.refl _ _⟩
  | cons b r =>
    go_enter Tryz.func141, Tryz.ntmps141
    go_upto_region 2 with (go_at_call 177; refine HT.out.mono ?_; rintro e w2 ⟨rfl, rfl⟩)
    by_cases k1 : 200 < (r.length : Int) + 1
    · have e : B = false := by rw [HI.out, decide_eq_false (show ¬ (b :: r).length ≤ 200 by rw [List.length_cons]; omega)]; simp
      subst e
      go_wp2_with fail
      go_ret
      exact ⟨rfl, Keeps.refl _ _⟩
    have hk1 : (b :: r).length ≤ 200 := by rw [List.length_cons]; omega
    have hix : (0 ≤ Lib.idxFunc noDigit true ⟨(b :: r).toArray⟩) ↔ ((b :: r).any fun c => noDigit c.toNat) = true := by
      have := idx_ascii noDigit ⟨(b :: r).toArray⟩ hDa (ByteArray.size ⟨(b :: r).toArray⟩) 0 (by omega)
      rw [List.drop_zero] at this; exact this
    have hpred : PredAt Tryz.prog 179 #[] encR noDigit w2 := fun W x _ => (valid1_any x W).mono fun e w' h => ⟨h.1, 0, h.2⟩
    have hcall := Sh.strings_ContainsFunc 179 #[] enters_valid1 noDigit ⟨(b :: r).toArray⟩ w2 hpred
    obtain ⟨N, hN⟩ : ∃ N, decide (0 ≤ Lib.idxFunc noDigit true ⟨(b :: r).toArray⟩) = N := ⟨_, rfl⟩
    rw [hN] at hcall
    have hall : (b :: r).all (fun b => decide (48 ≤ b.toNat) && decide (b.toNat ≤ 57)) = !N := by
      have e1 : N = (b :: r).any fun c => noDigit c.toNat := by
        rw [Bool.eq_iff_iff, ← hN, decide_eq_true_eq]; exact hix
      rw [e1, List.not_any_eq_all_not]
      congr 1
      funext c
      simp only [noDigit, Bool.not_not]
    have HAll := Lib.hid hall
    have HCall := Lib.hid hcall
    have HK := Lib.hid hk1
    have h0 : ∀ h, ((⟨(b :: r).toArray⟩ : ByteArray)[0]'h) = b := fun _ => rfl
    clear hix hpred hcall hN hall hDl hDa hs ha hk1
    by_cases k2 : (b.toNat : Int) = 48
    · have hb : b = 48 := UInt8.toNat_inj.1 (show b.toNat = 48 by omega)
      by_cases k3 : s.toList = [48]
      · have e : B = !N := by
          rw [HI.out, decide_eq_true HK.out, HAll.out, ← Go.ByteArray.toList_eq, k3]
          simp
        subst e
        have k4 : (s.toList == [48]) = true := by rw [k3]; rfl
        clear k3 hb
        go_wp2_with (go_at_call 178; refine HCall.out.mono ?_; rintro e w3 ⟨rfl, hx⟩; have HX := Lib.hid hx; clear hx)
        go_ret
        exact ⟨rfl, Keeps.of_below HX.out _ (fun k h1 h2 => by omega)⟩
      · have e : B = false := by
          rw [HI.out, ← Go.ByteArray.toList_eq, hb]
          have : (s.toList != [48]) = true := by simpa using k3
          rw [this]
          simp
        subst e
        have k4 : (s.toList == [48]) = false := by simpa using k3
        clear k3 hb
        go_wp2_with fail
        go_ret
        exact ⟨rfl, Keeps.refl _ _⟩
    · have hb : ¬ b = 48 := fun e => k2 (by rw [e]; rfl)
      have e : B = !N := by
        rw [HI.out, decide_eq_true HK.out, HAll.out]
        simp [hb]
      subst e
      clear hb
      go_wp2_with (go_at_call 178; refine HCall.out.mono ?_; rintro e w3 ⟨rfl, hx⟩; have HX := Lib.hid hx; clear hx)
      go_ret
      exact ⟨rfl, Keeps.of_below HX.out _ (fun k h1 h2 => by omega)⟩
end Go.Proofs.YtlaepkmnbbgbcaaGreatDoor
