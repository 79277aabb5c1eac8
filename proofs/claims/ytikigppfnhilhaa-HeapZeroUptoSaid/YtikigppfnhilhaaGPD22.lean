/- Major. -/
import Derived.Test.YtikigppfnhilhaaGPD21
/- Major. -/
namespace Go.Proofs.Ytikigppfnhilhaa
open Go.RowKit Go.Instr
set_option linter.unusedVariables false
set_option linter.unusedSimpArgs false
attribute [local go_sem] Oper.semAt_some

set_option maxRecDepth 100000 in
set_option maxHeartbeats 2000000 in
theorem Major_bad {w : World} {base : Nat} {x : PH} (h : HRep w base x) {v : Value} {roots : List Wd} (hr : RdW w v roots) (hl : roots.length ≤ 1048576) (hb : roots.any x.log.bad = true) :
    Calls Try.prog 36 #[.pointer (some ⟨x.hp, 0, none⟩), v] w fun e w' => e = .returned (.tuple #[.slice none 0 0, .int .i64 1]) ∧ Ext w w' := by
  have hx0 : Ext w (w.alloc (.cells #[.pointer (some ⟨x.hp, 0, none⟩)] 25)) := (Ext.refl w).alloc _
  have HV := Lib.hid (valid_any (h.ext hx0) (hr.ext hx0) (by omega))
  rw [any_log, hb] at HV
  have Hb := Lib.hid hb; clear hb
  go_enter Try.func36, Try.ntmps36
  go_wp2_with (go_at_call 44; refine HV.out.mono ?_; rintro e w1 ⟨rfl, hx⟩)
  go_ret2
  exact ⟨rfl, hx0.trans hx⟩

set_option maxRecDepth 100000 in
set_option maxHeartbeats 4000000 in
theorem Major_good {w : World} {base : Nat} {x : PH} (h : HRep w base x) (hinv : LInv x.log) {v : Value} {roots : List Wd} (hr : RdW w v roots) (hd : roots ≠ [] → ∀ k, v.ownBlock = some k → ¬ x.fp k) (hl : roots.length ≤ 1048576) (hb : roots.any x.log.bad = false) :
    Calls Try.prog 36 #[.pointer (some ⟨x.hp, 0, none⟩), v] w fun e w' => ∃ v', e = .returned (.tuple #[v', .int .i64 (x.log.major roots).2.2]) ∧ w'.ownsRow w.heap.size 33 6 v' (x.log.major roots).2.1.length (flatL (x.log.major roots).2.1) ∧ StepC w base x (x.log.major roots).1 w' := by
  obtain ⟨w0, hw0⟩ : ∃ w0, w.alloc (.cells #[.pointer (some ⟨x.hp, 0, none⟩)] 25) = w0 := ⟨_, rfl⟩
  have hx0 : Ext w w0 := by rw [← hw0]; exact (Ext.refl w).alloc _
  have Hbx0 : Hid (Blk w0 w.heap.size #[.pointer (some ⟨x.hp, 0, none⟩)] 25) := Lib.hid (by rw [← hw0]; exact Blk.new w _ _)
  have HV := Lib.hid (valid_any (h.ext hx0) (hr.ext hx0) (by omega))
  rw [any_log, hb] at HV
  have Hb := Lib.hid hb; clear hb
  have Hr := Lib.hid hr; have Hd := Lib.hid hd; have Hinv := Lib.hid hinv
  clear hr hd hinv
  obtain ⟨pp, hpp⟩ : ∃ pp : LH × List Wd × Int, pp = x.log.major roots := ⟨_, rfl⟩
  rw [← hpp]
  have Hpp := Lib.hid hpp; clear hpp
  have HX0 := Lib.hid hx0; clear hx0
  go_enter Try.func36, Try.ntmps36
  have b00 : w0.cell? ⟨w.heap.size, 0, none⟩ = some (.pointer (some ⟨x.hp, 0, none⟩)) := (Hbx0.out.cell 0).trans rfl
  go_wp2_with fail
  clear hw0 b00
  refine HV.out.mono ?_
  rintro e w1 ⟨rfl, hx1⟩
  obtain ⟨bh, hbh⟩ : ∃ bh, w.heap.size = bh := ⟨_, rfl⟩
  have HX1 : Hid (Ext w w1) := Lib.hid (HX0.out.trans hx1)
  have Hbx1 : Hid (Blk w1 w.heap.size #[.pointer (some ⟨x.hp, 0, none⟩)] 25) := Lib.hid (hx1.blk Hbx0.out id)
  rw [hbh] at Hbx1 ⊢
  have Hbh := Lib.hid hbh
  have b0 : w1.cell? ⟨bh, 0, none⟩ = some (.pointer (some ⟨x.hp, 0, none⟩)) := (Hbx1.out.cell 0).trans rfl
  have Hrch := Lib.hid (reached_any (h.ext HX1.out) h.ok (Hr.out.ext HX1.out) (by omega) (gf := 63) (lead := #[]) (enters_of Try.func63 (by kernel_rfl) rfl) (p := fun _ => true)
    (fun y hy W hW => (MajorF1_true y.ptr W).mono fun e w' ⟨h1, h2⟩ => ⟨h1, by rw [h2]; exact Ext.refl _⟩))
  clear hx1 hbh Hbx0 HX0 HV
  go_wp2_with fail
  refine Hrch.out.mono ?_
  rintro e w5 ⟨K, rfl, hx5, hKM, hK, hKs, hKn⟩
  obtain ⟨m, hm⟩ : ∃ m, m = w1.heap.size := ⟨_, rfl⟩
  rw [← hm] at hKM ⊢
  have HX5 := Lib.hid (HX1.out.trans hx5)
  have HK := Lib.hid hK; have HKs := Lib.hid hKs; have HKn := Lib.hid hKn; have HKM := Lib.hid hKM
  have Hbx5 := Lib.hid (hx5.blk Hbx1.out id)
  have Hh5 := Lib.hid (h.ext HX5.out)
  obtain ⟨ya, yc, hyv, hyr⟩ := rowP_of Hh5.out.yrow
  obtain ⟨oa, oc, hov, hor⟩ := rowP_of Hh5.out.orow
  have b5 : w5.cell? ⟨bh, 0, none⟩ = some (.pointer (some ⟨x.hp, 0, none⟩)) := (Hbx5.out.cell 0).trans rfl
  have c3 : w5.cell? ⟨x.hp, 3, none⟩ = some (.slice ya x.yb.length yc) := by rw [← hyv]; exact (Hh5.out.cell 3).trans rfl
  have c7 : w5.cell? ⟨x.hp, 7, none⟩ = some (.slice oa x.ob.length oc) := by rw [← hov]; exact (Hh5.out.cell 7).trans rfl
  have Hyv := Lib.hid hyv; have Hyr := Lib.hid hyr; have Hov := Lib.hid hov; have Hor := Lib.hid hor
  clear hx5 hKM hK hKs hKn hm Hrch hyv hyr hov hor HX1 Hbx1 b0
  go_wp2_with fail
  have HS : Hid (w5.drew.cell? ⟨bh, 0, none⟩ = some (.pointer (some ⟨x.hp, 0, none⟩)) ∧ w5.drew.cell? ⟨x.hp, 3, none⟩ = some (.slice ya x.yb.length yc) ∧ w5.drew.cell? ⟨x.hp, 7, none⟩ = some (.slice oa x.ob.length oc)) := Lib.hid ⟨b5, c3, c7⟩
  clear b5 c3 c7
  refine region_S_plain (n := 3) (fun V => V.cell? ⟨bh, 0, none⟩ = some (.pointer (some ⟨x.hp, 0, none⟩)) ∧ V.cell? ⟨x.hp, 3, none⟩ = some (.slice ya x.yb.length yc) ∧ V.cell? ⟨x.hp, 7, none⟩ = some (.slice oa x.ob.length oc)) 100 (by kernel_rfl) ?_
  have HX6 : Hid (Ext w w5.drew) := Lib.hid HX5.out.drew
  have Hh6 := Lib.hid (h.ext HX6.out)
  have HKM6 : Hid (KMap w5.drew m K) := Lib.hid (HKM.out.keep rfl)
  have Hbx6 : Hid (Blk w5.drew bh #[.pointer (some ⟨x.hp, 0, none⟩)] 25) := Lib.hid Hbx5.out.drew
  have Hyr6 : Hid (RowP w5.drew ya x.yb) := Lib.hid (Hyr.out.keep fun k c t hb _ => hb.drew)
  have Hor6 : Hid (RowP w5.drew oa x.ob) := Lib.hid (Hor.out.keep fun k c t hb _ => hb.drew)
  generalize w5.drew = w6 at HS HX6 Hh6 HKM6 Hbx6 Hyr6 Hor6 ⊢
  clear HX5 Hh5 HKM Hbx5 Hyr Hor
  refine anyS_quiet (a2 := ?a0) 0 rfl rfl rfl (by kernel_rfl) (by kernel_rfl) (by kernel_rfl) (by kernel_rfl) (by kernel_rfl) (by kernel_rfl) (fun _ _ _ _ h => h) HS.out ?h0 ?k0
  case h0 => intro W hW K hK; obtain ⟨d0, d1, d2⟩ := hW; go_simp; exact hK
  refine anyS_quiet (a2 := ?a1) 1 rfl rfl rfl (by kernel_rfl) (by kernel_rfl) (by kernel_rfl) (by kernel_rfl) (by kernel_rfl) (by kernel_rfl) (fun _ _ _ _ h => h) HS.out ?h1 ?k1
  case h1 => intro W hW K hK; obtain ⟨d0, d1, d2⟩ := hW; go_simp; exact hK
  refine anyS_quiet (a2 := ?a2) 2 rfl rfl rfl (by kernel_rfl) (by kernel_rfl) (by kernel_rfl) (by kernel_rfl) (by kernel_rfl) (by kernel_rfl) (fun _ _ _ _ h => h) HS.out ?h2 ?k2
  case h2 => intro W hW K hK; obtain ⟨d0, d1, d2⟩ := hW; go_simp; exact hK
  refine anyS_quiet (a2 := ?a3) 3 rfl rfl rfl (by kernel_rfl) (by kernel_rfl) (by kernel_rfl) (by kernel_rfl) (by kernel_rfl) (by kernel_rfl) (fun _ _ _ _ h => h) HS.out ?h3 ?k3
  case h3 => intro W hW K hK; obtain ⟨d0, d1, d2⟩ := hW; go_simp; exact hK
  refine anyS_quiet (a2 := ?a4) 4 rfl rfl rfl (by kernel_rfl) (by kernel_rfl) (by kernel_rfl) (by kernel_rfl) (by kernel_rfl) (by kernel_rfl) (fun _ _ _ _ h => h) HS.out ?h4 ?k4
  case h4 => intro W hW K hK; obtain ⟨d0, d1, d2⟩ := hW; go_simp; exact hK
  refine anyS_quiet (a2 := ?a5) 5 rfl rfl rfl (by kernel_rfl) (by kernel_rfl) (by kernel_rfl) (by kernel_rfl) (by kernel_rfl) (by kernel_rfl) (fun _ _ _ _ h => h) HS.out ?h5 ?k5
  case h5 => intro W hW K hK; obtain ⟨d0, d1, d2⟩ := hW; go_simp; exact hK
  refine anyS_quiet (a2 := ?a6) 6 rfl rfl rfl (by kernel_rfl) (by kernel_rfl) (by kernel_rfl) (by kernel_rfl) (by kernel_rfl) (by kernel_rfl) (fun _ _ _ _ h => h) HS.out ?h6 ?k6
  case h6 => intro W hW K hK; obtain ⟨d0, d1, d2⟩ := hW; go_simp; exact hK
  refine anyS_quiet (a2 := ?a7) 7 rfl rfl rfl (by kernel_rfl) (by kernel_rfl) (by kernel_rfl) (by kernel_rfl) (by kernel_rfl) (by kernel_rfl) (fun _ _ _ _ h => h) HS.out ?h7 ?k7
  case h7 => intro W hW K hK; obtain ⟨d0, d1, d2⟩ := hW; go_simp; exact hK
  refine anyS_quiet (a2 := ?a8) 8 rfl rfl rfl (by kernel_rfl) (by kernel_rfl) (by kernel_rfl) (by kernel_rfl) (by kernel_rfl) (by kernel_rfl) (fun _ _ _ _ h => h) HS.out ?h8 ?k8
  case h8 => intro W hW K hK; obtain ⟨d0, d1, d2⟩ := hW; go_simp; exact hK
  refine anyS_quiet (a2 := ?a9) 9 rfl rfl rfl (by kernel_rfl) (by kernel_rfl) (by kernel_rfl) (by kernel_rfl) (by kernel_rfl) (by kernel_rfl) (fun _ _ _ _ h => h) HS.out ?h9 ?k9
  case h9 => intro W hW K hK; obtain ⟨d0, d1, d2⟩ := hW; go_simp; exact hK
  refine anyS_quiet (a2 := ?a10) 10 rfl rfl rfl (by kernel_rfl) (by kernel_rfl) (by kernel_rfl) (by kernel_rfl) (by kernel_rfl) (by kernel_rfl) (fun _ _ _ _ h => h) HS.out ?h10 ?k10
  case h10 => intro W hW K hK; obtain ⟨d0, d1, d2⟩ := hW; go_simp; exact hK
  refine anyS_quiet (a2 := ?a11) 11 rfl rfl rfl (by kernel_rfl) (by kernel_rfl) (by kernel_rfl) (by kernel_rfl) (by kernel_rfl) (by kernel_rfl) (fun _ _ _ _ h => h) HS.out ?h11 ?k11
  case h11 => intro W hW K hK; obtain ⟨d0, d1, d2⟩ := hW; go_simp; exact hK
  refine anyS_done (by kernel_rfl) ?_ _
  go_wp2_with fail
  have hY0 := h.ok.Y0; have hY1 := h.ok.Y1; have hO0 := h.ok.O0; have hO1 := h.ok.O1
  have HS : Hid (w6.drew.cell? ⟨bh, 0, none⟩ = some (.pointer (some ⟨x.hp, 0, none⟩)) ∧ w6.drew.cell? ⟨x.hp, 1, none⟩ = some (.int .i64 x.Y)) := Lib.hid ⟨(Hbx6.out.cell 0).trans rfl, (Hh6.out.cell 1).trans rfl⟩
  refine region_S_plain (n := 3) (fun V => V.cell? ⟨bh, 0, none⟩ = some (.pointer (some ⟨x.hp, 0, none⟩)) ∧ V.cell? ⟨x.hp, 1, none⟩ = some (.int .i64 x.Y)) 9 (by kernel_rfl) ?_
  have HX8 : Hid (Ext w w6.drew) := Lib.hid HX6.out.drew
  have Hh8 := Lib.hid (h.ext HX8.out)
  have HKM8 : Hid (KMap w6.drew m K) := Lib.hid (HKM6.out.keep rfl)
  have Hbx8 : Hid (Blk w6.drew bh #[.pointer (some ⟨x.hp, 0, none⟩)] 25) := Lib.hid Hbx6.out.drew
  have Hyr8 : Hid (RowP w6.drew ya x.yb) := Lib.hid (Hyr6.out.keep fun k c t hb _ => hb.drew)
  have Hor8 : Hid (RowP w6.drew oa x.ob) := Lib.hid (Hor6.out.keep fun k c t hb _ => hb.drew)
  generalize w6.drew = w8 at HS HX8 Hh8 HKM8 Hbx8 Hyr8 Hor8 ⊢
  clear HX6 Hh6 HKM6 Hbx6 Hyr6 Hor6
  refine anyS_quiet (a2 := ?ab_0) 0 rfl rfl rfl (by kernel_rfl) (by kernel_rfl) (by kernel_rfl) (by kernel_rfl) (by kernel_rfl) (by kernel_rfl) (fun _ _ _ _ h => h) HS.out ?hb_0 ?kb_0
  case hb_0 => intro W hW K hK; obtain ⟨d0, d1⟩ := hW; go_simp; exact hK
  refine anyS_quiet (a2 := ?ab_1) 1 rfl rfl rfl (by kernel_rfl) (by kernel_rfl) (by kernel_rfl) (by kernel_rfl) (by kernel_rfl) (by kernel_rfl) (fun _ _ _ _ h => h) HS.out ?hb_1 ?kb_1
  case hb_1 => intro W hW K hK; obtain ⟨d0, d1⟩ := hW; go_simp; exact hK
  refine anyS_quiet (a2 := ?ab_2) 2 rfl rfl rfl (by kernel_rfl) (by kernel_rfl) (by kernel_rfl) (by kernel_rfl) (by kernel_rfl) (by kernel_rfl) (fun _ _ _ _ h => h) HS.out ?hb_2 ?kb_2
  case hb_2 => intro W hW K hK; obtain ⟨d0, d1⟩ := hW; go_simp; exact hK
  refine anyS_quiet (a2 := ?ab_3) 3 rfl rfl rfl (by kernel_rfl) (by kernel_rfl) (by kernel_rfl) (by kernel_rfl) (by kernel_rfl) (by kernel_rfl) (fun _ _ _ _ h => h) HS.out ?hb_3 ?kb_3
  case hb_3 => intro W hW K hK; obtain ⟨d0, d1⟩ := hW; go_simp; exact hK
  refine anyS_quiet (a2 := ?ab_4) 4 rfl rfl rfl (by kernel_rfl) (by kernel_rfl) (by kernel_rfl) (by kernel_rfl) (by kernel_rfl) (by kernel_rfl) (fun _ _ _ _ h => h) HS.out ?hb_4 ?kb_4
  case hb_4 => intro W hW K hK; obtain ⟨d0, d1⟩ := hW; go_simp; exact hK
  refine anyS_quiet (a2 := ?ab_5) 5 rfl rfl rfl (by kernel_rfl) (by kernel_rfl) (by kernel_rfl) (by kernel_rfl) (by kernel_rfl) (by kernel_rfl) (fun _ _ _ _ h => h) HS.out ?hb_5 ?kb_5
  case hb_5 => intro W hW K hK; obtain ⟨d0, d1⟩ := hW; go_simp; exact hK
  refine anyS_quiet (a2 := ?ab_6) 6 rfl rfl rfl (by kernel_rfl) (by kernel_rfl) (by kernel_rfl) (by kernel_rfl) (by kernel_rfl) (by kernel_rfl) (fun _ _ _ _ h => h) HS.out ?hb_6 ?kb_6
  case hb_6 => intro W hW K hK; obtain ⟨d0, d1⟩ := hW; go_simp; exact hK
  refine anyS_quiet (a2 := ?ab_7) 7 rfl rfl rfl (by kernel_rfl) (by kernel_rfl) (by kernel_rfl) (by kernel_rfl) (by kernel_rfl) (by kernel_rfl) (fun _ _ _ _ h => h) HS.out ?hb_7 ?kb_7
  case hb_7 => intro W hW K hK; obtain ⟨d0, d1⟩ := hW; go_simp; exact hK
  refine anyS_quiet (a2 := ?ab_8) 8 rfl rfl rfl (by kernel_rfl) (by kernel_rfl) (by kernel_rfl) (by kernel_rfl) (by kernel_rfl) (by kernel_rfl) (fun _ _ _ _ h => h) HS.out ?hb_8 ?kb_8
  case hb_8 => intro W hW K hK; obtain ⟨d0, d1⟩ := hW; go_simp; exact hK
  refine anyS_only 9 rfl (by kernel_rfl) ?_
  have c0 : w8.cell? ⟨x.hp, 0, none⟩ = some (.int .i64 x.fy) := (Hh8.out.cell 0).trans rfl
  have c1 : w8.cell? ⟨x.hp, 1, none⟩ = some (.int .i64 x.Y) := (Hh8.out.cell 1).trans rfl
  have c2 : w8.cell? ⟨x.hp, 2, none⟩ = some (.int .i64 x.yu) := (Hh8.out.cell 2).trans rfl
  have c3 : w8.cell? ⟨x.hp, 3, none⟩ = some x.yv := (Hh8.out.cell 3).trans rfl
  have f0 := Hh8.out.blk.frozen 0
  have f1 := Hh8.out.blk.frozen 1
  have f2 := Hh8.out.blk.frozen 2
  have f3 := Hh8.out.blk.frozen 3
  gi_wp2
  refine anyS_done (by kernel_rfl) ?_ _
  obtain ⟨V1, hV1⟩ : ∃ V, (((w8.setCell ⟨x.hp, 0, none⟩ (.int .i64 1)).setCell ⟨x.hp, 1, none⟩ (.int .i64 x.Y)).setCell ⟨x.hp, 2, none⟩ (.int .i64 0)).setCell ⟨x.hp, 3, none⟩ (.slice none 0 0) = V := ⟨_, rfl⟩
  rw [hV1]
  have HH1 : Hid (Half w8 x V1 base x.noYoung x.yb) := Lib.hid (Half.minor0 Hh8.out hV1.symm)
  have HF1 : Hid (Fine w8 x V1 (.slice none 0 0)) := Lib.hid ⟨by rw [← hV1]; exact (((((Keeps.refl _ w8).setCell (p := ⟨x.hp, 0, none⟩) (.inl (.inl rfl)) _).setCell (p := ⟨x.hp, 1, none⟩) (.inl (.inl rfl)) _).setCell (p := ⟨x.hp, 2, none⟩) (.inl (.inl rfl)) _).setCell (p := ⟨x.hp, 3, none⟩) (.inl (.inl rfl)) _), fun k e => by simp [Value.ownBlock] at e⟩
  clear hV1 c0 c1 c2 c3 f0 f1 f2 f3 HS
  go_wp2_with fail
  have HS : Hid (V1.drew.cell? ⟨bh, 0, none⟩ = some (.pointer (some ⟨x.hp, 0, none⟩)) ∧ V1.drew.cell? ⟨x.hp, 1, none⟩ = some (.int .i64 x.Y) ∧ V1.drew.cell? ⟨x.hp, 5, none⟩ = some (.int .i64 x.O)) :=
    Lib.hid ⟨((Half.box Hh8.out HH1.out Hbx8.out (by decide) (by decide) (by decide)).cell 0).trans rfl, (HH1.out.blk.cell 1).trans rfl, (HH1.out.blk.cell 5).trans rfl⟩
  refine region_S_plain (n := 3) (fun V => V.cell? ⟨bh, 0, none⟩ = some (.pointer (some ⟨x.hp, 0, none⟩)) ∧ V.cell? ⟨x.hp, 1, none⟩ = some (.int .i64 x.Y) ∧ V.cell? ⟨x.hp, 5, none⟩ = some (.int .i64 x.O)) 15 (by kernel_rfl) ?_
  have HH2 : Hid (Half w8 x V1.drew base x.noYoung x.yb) := Lib.hid (HH1.out.ext (Ext.refl V1).drew)
  have HF2 : Hid (Fine w8 x V1.drew (.slice none 0 0)) := Lib.hid ⟨HF1.out.kp.drew, HF1.out.own⟩
  generalize V1.drew = V2 at HS HH2 HF2 ⊢
  clear HH1 HF1
  refine anyS_quiet (a2 := ?ac_0) 0 rfl rfl rfl (by kernel_rfl) (by kernel_rfl) (by kernel_rfl) (by kernel_rfl) (by kernel_rfl) (by kernel_rfl) (fun _ _ _ _ h => h) HS.out ?hc_0 ?kc_0
  case hc_0 => intro W hW K hK; obtain ⟨d0, d1, d2⟩ := hW; go_simp; exact hK
  refine anyS_quiet (a2 := ?ac_1) 1 rfl rfl rfl (by kernel_rfl) (by kernel_rfl) (by kernel_rfl) (by kernel_rfl) (by kernel_rfl) (by kernel_rfl) (fun _ _ _ _ h => h) HS.out ?hc_1 ?kc_1
  case hc_1 => intro W hW K hK; obtain ⟨d0, d1, d2⟩ := hW; go_simp; exact hK
  refine anyS_quiet (a2 := ?ac_2) 2 rfl rfl rfl (by kernel_rfl) (by kernel_rfl) (by kernel_rfl) (by kernel_rfl) (by kernel_rfl) (by kernel_rfl) (fun _ _ _ _ h => h) HS.out ?hc_2 ?kc_2
  case hc_2 => intro W hW K hK; obtain ⟨d0, d1, d2⟩ := hW; go_simp; exact hK
  refine anyS_quiet (a2 := ?ac_3) 3 rfl rfl rfl (by kernel_rfl) (by kernel_rfl) (by kernel_rfl) (by kernel_rfl) (by kernel_rfl) (by kernel_rfl) (fun _ _ _ _ h => h) HS.out ?hc_3 ?kc_3
  case hc_3 => intro W hW K hK; obtain ⟨d0, d1, d2⟩ := hW; go_simp; exact hK
  refine anyS_quiet (a2 := ?ac_4) 4 rfl rfl rfl (by kernel_rfl) (by kernel_rfl) (by kernel_rfl) (by kernel_rfl) (by kernel_rfl) (by kernel_rfl) (fun _ _ _ _ h => h) HS.out ?hc_4 ?kc_4
  case hc_4 => intro W hW K hK; obtain ⟨d0, d1, d2⟩ := hW; go_simp; exact hK
  refine anyS_quiet (a2 := ?ac_5) 5 rfl rfl rfl (by kernel_rfl) (by kernel_rfl) (by kernel_rfl) (by kernel_rfl) (by kernel_rfl) (by kernel_rfl) (fun _ _ _ _ h => h) HS.out ?hc_5 ?kc_5
  case hc_5 => intro W hW K hK; obtain ⟨d0, d1, d2⟩ := hW; go_simp; exact hK
  refine anyS_quiet (a2 := ?ac_6) 6 rfl rfl rfl (by kernel_rfl) (by kernel_rfl) (by kernel_rfl) (by kernel_rfl) (by kernel_rfl) (by kernel_rfl) (fun _ _ _ _ h => h) HS.out ?hc_6 ?kc_6
  case hc_6 => intro W hW K hK; obtain ⟨d0, d1, d2⟩ := hW; go_simp; exact hK
  refine anyS_quiet (a2 := ?ac_7) 7 rfl rfl rfl (by kernel_rfl) (by kernel_rfl) (by kernel_rfl) (by kernel_rfl) (by kernel_rfl) (by kernel_rfl) (fun _ _ _ _ h => h) HS.out ?hc_7 ?kc_7
  case hc_7 => intro W hW K hK; obtain ⟨d0, d1, d2⟩ := hW; go_simp; exact hK
  refine anyS_quiet (a2 := ?ac_8) 8 rfl rfl rfl (by kernel_rfl) (by kernel_rfl) (by kernel_rfl) (by kernel_rfl) (by kernel_rfl) (by kernel_rfl) (fun _ _ _ _ h => h) HS.out ?hc_8 ?kc_8
  case hc_8 => intro W hW K hK; obtain ⟨d0, d1, d2⟩ := hW; go_simp; exact hK
  refine anyS_quiet (a2 := ?ac_9) 9 rfl rfl rfl (by kernel_rfl) (by kernel_rfl) (by kernel_rfl) (by kernel_rfl) (by kernel_rfl) (by kernel_rfl) (fun _ _ _ _ h => h) HS.out ?hc_9 ?kc_9
  case hc_9 => intro W hW K hK; obtain ⟨d0, d1, d2⟩ := hW; go_simp; exact hK
  refine anyS_quiet (a2 := ?ac_10) 10 rfl rfl rfl (by kernel_rfl) (by kernel_rfl) (by kernel_rfl) (by kernel_rfl) (by kernel_rfl) (by kernel_rfl) (fun _ _ _ _ h => h) HS.out ?hc_10 ?kc_10
  case hc_10 => intro W hW K hK; obtain ⟨d0, d1, d2⟩ := hW; go_simp; exact hK
  refine anyS_quiet (a2 := ?ac_11) 11 rfl rfl rfl (by kernel_rfl) (by kernel_rfl) (by kernel_rfl) (by kernel_rfl) (by kernel_rfl) (by kernel_rfl) (fun _ _ _ _ h => h) HS.out ?hc_11 ?kc_11
  case hc_11 => intro W hW K hK; obtain ⟨d0, d1, d2⟩ := hW; go_simp; exact hK
  refine anyS_quiet (a2 := ?ac_12) 12 rfl rfl rfl (by kernel_rfl) (by kernel_rfl) (by kernel_rfl) (by kernel_rfl) (by kernel_rfl) (by kernel_rfl) (fun _ _ _ _ h => h) HS.out ?hc_12 ?kc_12
  case hc_12 => intro W hW K hK; obtain ⟨d0, d1, d2⟩ := hW; go_simp; exact hK
  refine anyS_quiet (a2 := ?ac_13) 13 rfl rfl rfl (by kernel_rfl) (by kernel_rfl) (by kernel_rfl) (by kernel_rfl) (by kernel_rfl) (by kernel_rfl) (fun _ _ _ _ h => h) HS.out ?hc_13 ?kc_13
  case hc_13 => intro W hW K hK; obtain ⟨d0, d1, d2⟩ := hW; go_simp; exact hK
  refine anyS_quiet (a2 := ?ac_14) 14 rfl rfl rfl (by kernel_rfl) (by kernel_rfl) (by kernel_rfl) (by kernel_rfl) (by kernel_rfl) (by kernel_rfl) (fun _ _ _ _ h => h) HS.out ?hc_14 ?kc_14
  case hc_14 => intro W hW K hK; obtain ⟨d0, d1, d2⟩ := hW; go_simp; exact hK
  refine anyS_only 15 rfl (by kernel_rfl) ?_
  have c4 : V2.cell? ⟨x.hp, 4, none⟩ = some (.int .i64 x.fo) := (HH2.out.blk.cell 4).trans rfl
  have c5 : V2.cell? ⟨x.hp, 5, none⟩ = some (.int .i64 x.O) := (HH2.out.blk.cell 5).trans rfl
  have c6 : V2.cell? ⟨x.hp, 6, none⟩ = some (.int .i64 x.ou) := (HH2.out.blk.cell 6).trans rfl
  have c7 : V2.cell? ⟨x.hp, 7, none⟩ = some x.ov := (HH2.out.blk.cell 7).trans rfl
  have f4 : V2.frozen? ⟨x.hp, 4, none⟩ = false := HH2.out.blk.frozen 4
  have f5 : V2.frozen? ⟨x.hp, 5, none⟩ = false := HH2.out.blk.frozen 5
  have f6 : V2.frozen? ⟨x.hp, 6, none⟩ = false := HH2.out.blk.frozen 6
  have f7 : V2.frozen? ⟨x.hp, 7, none⟩ = false := HH2.out.blk.frozen 7
  gi_wp2
  refine anyS_done (by kernel_rfl) ?_ _
  obtain ⟨V3, hV3⟩ : ∃ V, (((V2.setCell ⟨x.hp, 4, none⟩ (.int .i64 (x.Y + 1))).setCell ⟨x.hp, 5, none⟩ (.int .i64 x.O)).setCell ⟨x.hp, 6, none⟩ (.int .i64 0)).setCell ⟨x.hp, 7, none⟩ (.slice none 0 0) = V := ⟨_, rfl⟩
  rw [hV3]
  have HF3 : Hid (Fine w8 x V3 (.slice none 0 0)) := Lib.hid ⟨by rw [← hV3]; exact ((((HF2.out.kp.setCell (p := ⟨x.hp, 4, none⟩) (.inl (.inl rfl)) _).setCell (p := ⟨x.hp, 5, none⟩) (.inl (.inl rfl)) _).setCell (p := ⟨x.hp, 6, none⟩) (.inl (.inl rfl)) _).setCell (p := ⟨x.hp, 7, none⟩) (.inl (.inl rfl)) _), fun k e => by simp [Value.ownBlock] at e⟩
  have HH3 : Hid (Half w8 x V3 base (x.majA K 0 (.slice none 0 0)) (x.ob.drop 0 ++ x.yb)) := Lib.hid (by rw [PH.majA_zero, List.drop_zero]; exact Half.resetOld HH2.out hV3.symm)
  clear hV3 c4 c5 c6 c7 f4 f5 f6 f7 HS HH2 HF2
  have hyl : x.yb.length ≤ 100000 := by
    have h1 := bused_len (x.yb.map PB.b); rw [List.length_map, ← h.ok.yu] at h1; have := h.ok.yu1; omega
  have hol : x.ob.length ≤ 100000 := by
    have h1 := bused_len (x.ob.map PB.b); rw [List.length_map, ← h.ok.ou] at h1; have := h.ok.ou1; omega
  go_wp2_with fail
  go_loopw [64] (fun i wr => ∃ (k : Nat) (ov : Value), k ≤ x.ob.length ∧ i = .int .i64 k ∧ Hid (Half w8 x wr base (x.majA K k ov) (x.ob.drop k ++ x.yb)) ∧ Hid (Fine w8 x wr ov)) (fun i wr => x.ob.length - (intOf i).toNat)
  case atStart => exact ⟨0, .slice none 0 0, Nat.zero_le _, rfl, HH3, HF3⟩
  case round =>
    clear HH3 HF3
    obtain ⟨k, ov, hk, rfl, HH, HF⟩ := hrel
    by_cases hlt : k < x.ob.length
    · obtain ⟨y, hyk⟩ : ∃ y, x.ob[k]? = some y := ⟨_, List.getElem?_eq_getElem hlt⟩
      have hyy : y ∈ x.ob := List.mem_of_getElem? hyk
      have hym : y ∈ x.all := List.mem_append_right _ hyy
      have hdrop : x.ob.drop k = y :: x.ob.drop (k + 1) := by
        rw [List.drop_eq_getElem_cons hlt]; rw [List.getElem?_eq_getElem hlt] at hyk; injection hyk with hyk; rw [hyk]
      rw [hdrop, List.cons_append] at HH
      obtain ⟨g, hya, hcell⟩ := Hor8.out.get hyk
      have hown8 : x.ov.ownBlock = some g := by rw [Hov.out, hya]; rfl
      have hgc : wr.cell? ⟨g, k, none⟩ = some (.pointer (some ⟨y.p, 0, none⟩)) := by
        obtain ⟨cur, hgb⟩ := ownsRow_type Hh8.out.orow hown8
        refine (World.cell?_of_block (HF.out.kp.block g hgb.lt ?_)).trans hcell
        rintro (e | e)
        · exact (hgb.ne Hh8.out.blk (by decide)) e
        · obtain ⟨z, hz, e⟩ := List.mem_map.1 e
          exact (hgb.ne (Hh8.out.pbs z hz).st (by decide)) e.symm
      have hKMr : KMap wr m K := HKM8.out.keep (by
        obtain ⟨es, ck, h1, _⟩ := HKM8.out.ex
        exact (HH.out.map_keep Hh8.out h1).trans h1.symm)
      have hlk := KMap.lookup' (fun z hz => let ⟨c, hc⟩ := HH.out.lie z hz; ⟨c, _, hc⟩) hKMr HKs.out hym
      have br : wr.cell? ⟨bh, 0, none⟩ = some (.pointer (some ⟨x.hp, 0, none⟩)) := ((Half.box Hh8.out HH.out Hbx8.out (by decide) (by decide) (by decide)).cell 0).trans rfl
      have Hyk := Lib.hid hyk
      have Hya := Lib.hid hya
      have Hym := Lib.hid hym
      clear hKMr hcell hown8 hyk hdrop hya
      by_cases hin : y.p ∈ K.map PB.p
      · have hroom : (x.majA K k ov).ou + (y.b.ws.length + 1) ≤ (x.majA K k ov).O := by
          have h1 := keptPB_le K x.ob (k + 1)
          rw [keptPB_step Hyk.out, if_pos hin, List.map_append, bused_append] at h1
          have h2 : bused ([y].map PB.b) = y.b.ws.length + 1 := by simp [bused]
          have h3 := bused_kept_ob h.ok K
          show bused ((keptPB K (x.ob.take k)).map PB.b) + (y.b.ws.length + 1) ≤ x.O
          omega
        have Hpush := Lib.hid (Half.push_old HH.out hroom)
        rw [decide_eq_true hin] at hlk
        have Hin := Lib.hid hin
        clear hin hroom
        rw [Hya.out]
        go_wp2_with (go_at_call 60; refine Hpush.out.mono ?_; rintro e w9 ⟨rfl, ov', hH9, hk9, ho9⟩)
        rw [PH.majA_step Hyk.out Hin.out] at hH9
        exact ⟨⟨k + 1, ov', hlt, by simp, hH9, HF.out.push Hym.out hk9 ho9⟩, by simp only [intOf]; omega⟩
      · rw [decide_eq_false hin] at hlk
        have Hin := Lib.hid hin
        clear hin
        rw [Hya.out]
        go_wp2
        have hH9 := HH.out.skip
        rw [← PH.majA_skip Hyk.out Hin.out] at hH9
        exact ⟨⟨k + 1, ov, hlt, by simp, hH9, HF⟩, by simp only [intOf]; omega⟩
    · have hkn : k = x.ob.length := by omega
      subst hkn
      rw [List.drop_length, List.nil_append] at HH
      rw [← PH.majB_zero] at HH
      clear HF
      go_wp2_with fail
      go_loopw [11, 79] (fun f i wr => ∃ (k : Nat) (yv ov : Value), k ≤ x.yb.length ∧ i = .int .i64 k ∧ f = .bool (!(x.fitAt K k).2.isEmpty) ∧ Hid (Half w8 x wr base (x.majB K k yv ov) (x.yb.drop k))) (fun f i wr => x.yb.length - (intOf i).toNat)
      case atStart => exact ⟨0, .slice none 0 0, ov, Nat.zero_le _, rfl, by simp [PH.fitAt, keptPB, fitsPB], by rw [List.drop_zero]; exact HH⟩
      case round =>
        clear HH
        obtain ⟨k, yv, ov, hk, rfl, rfl, HH⟩ := hrel
        by_cases hlt : k < x.yb.length
        · obtain ⟨y, hyk⟩ : ∃ y, x.yb[k]? = some y := ⟨_, List.getElem?_eq_getElem hlt⟩
          have hyy : y ∈ x.yb := List.mem_of_getElem? hyk
          have hym : y ∈ x.all := List.mem_append_left _ hyy
          have hdrop : x.yb.drop k = y :: x.yb.drop (k + 1) := by
            rw [List.drop_eq_getElem_cons hlt]; rw [List.getElem?_eq_getElem hlt] at hyk; injection hyk with hyk; rw [hyk]
          rw [hdrop] at HH
          obtain ⟨g, hya, hcell⟩ := Hyr8.out.get hyk
          have hown8 : x.yv.ownBlock = some g := by rw [Hyv.out, hya]; rfl
          have hgc : wr.cell? ⟨g, k, none⟩ = some (.pointer (some ⟨y.p, 0, none⟩)) := by
            obtain ⟨cur, hgb⟩ := ownsRow_type Hh8.out.yrow hown8
            refine (World.cell?_of_block (HH.out.kp.block g hgb.lt ?_)).trans hcell
            rintro (e | e | e)
            · exact (hgb.ne Hh8.out.blk (by decide)) e
            · obtain ⟨z, hz, e⟩ := List.mem_map.1 e
              exact (hgb.ne (Hh8.out.pbs z hz).st (by decide)) e.symm
            · exact Hh8.out.rows g hown8 e.symm
          have hKMr : KMap wr m K := HKM8.out.keep (by
            obtain ⟨es, ck, h1, _⟩ := HKM8.out.ex
            exact (HH.out.map_keep Hh8.out h1).trans h1.symm)
          have hlk := KMap.lookup' (fun z hz => let ⟨c, hc⟩ := HH.out.lie z hz; ⟨c, _, hc⟩) hKMr HKs.out hym
          have Hyk := Lib.hid hyk
          have Hya := Lib.hid hya
          have hyl2 := h.ok.len hym
          clear hKMr hcell hown8 hyk hdrop hya
          by_cases hin : y.p ∈ K.map PB.p
          · rw [decide_eq_true hin] at hlk
            have Hin := Lib.hid hin
            clear hin
            obtain ⟨OU, hOU⟩ : ∃ OU, (x.majB K k yv ov).ou = OU := ⟨_, rfl⟩
            have ⟨hOU0, hOU1⟩ := majB_ou h.ok K k yv ov
            rw [hOU] at hOU0 hOU1
            have hpb := HH.out.pbs y (by simp)
            have HS : Hid (wr.drew.cell? ⟨bh, 0, none⟩ = some (.pointer (some ⟨x.hp, 0, none⟩)) ∧ wr.drew.cell? ⟨y.p, 2, none⟩ = some (.slice (some ⟨y.arr, 0, none⟩) y.b.ws.length y.b.ws.length) ∧ wr.drew.cell? ⟨x.hp, 4 + 1, none⟩ = some (.int .i64 x.O) ∧ wr.drew.cell? ⟨x.hp, 4 + 2, none⟩ = some (.int .i64 OU)) :=
              Lib.hid ⟨((Half.box Hh8.out HH.out Hbx8.out (by decide) (by decide) (by decide)).cell 0).trans rfl, (hpb.st.cell 2).trans rfl, (HH.out.blk.cell 5).trans rfl, by rw [← hOU]; exact (HH.out.blk.cell 6).trans rfl⟩
            have HOU := Lib.hid hOU
            clear hpb hOU
            rw [Hya.out]
            cases hF : (x.fitAt K k).2.isEmpty with
            | true =>
              have hnil : (x.fitAt K k).2 = [] := by simpa using hF
              by_cases hfit : (y.b.ws.length : Int) + 1 ≤ x.O - OU
              · have Hstep : Hid (x.fitAt K (k + 1) = ((x.fitAt K k).1 ++ [y], (x.fitAt K k).2)) := Lib.hid (by
                  rw [PH.fitAt_step Hyk.out Hin.out, if_pos hnil, if_pos (by have := HOU.out; simp only [PH.majB] at this; omega), hnil])
                have Hroom : Hid ((x.majB K k yv ov).ou + (y.b.ws.length + 1) ≤ (x.majB K k yv ov).O) := Lib.hid (by rw [HOU.out]; show OU + _ ≤ x.O; omega)
                have hdec : ¬ x.O - OU < (y.b.ws.length : Int) + 1 := by omega
                have Hdec := Lib.hid hdec
                clear hF
                have Hnil := Lib.hid hnil
                clear hnil
                go_wp2_with fail
                refine region_S_plain (n := 3) (fun V => V.cell? ⟨bh, 0, none⟩ = some (.pointer (some ⟨x.hp, 0, none⟩)) ∧ V.cell? ⟨y.p, 2, none⟩ = some (.slice (some ⟨y.arr, 0, none⟩) y.b.ws.length y.b.ws.length) ∧ V.cell? ⟨x.hp, 4 + 1, none⟩ = some (.int .i64 x.O) ∧ V.cell? ⟨x.hp, 4 + 2, none⟩ = some (.int .i64 OU)) 10 (by kernel_rfl) ?_
                have HB9 : Hid (Blk wr.drew bh #[.pointer (some ⟨x.hp, 0, none⟩)] 25) := Lib.hid (Half.box Hh8.out HH.out Hbx8.out (by decide) (by decide) (by decide)).drew
                have HH9 := Lib.hid (HH.out.ext (Ext.refl wr).drew)
                generalize wr.drew = w9 at HS HH9 HB9 ⊢
                clear hgc hlk HH
                refine anyS_quiet (a2 := ?ad_0) 0 rfl rfl rfl (by kernel_rfl) (by kernel_rfl) (by kernel_rfl) (by kernel_rfl) (by kernel_rfl) (by kernel_rfl) (fun _ _ _ _ h => h) HS.out ?hd_0 ?kd_0
                case hd_0 => intro W hW K hK; obtain ⟨d0, d1, d2, d3⟩ := hW; go_simp; exact hK
                refine anyS_quiet (a2 := ?ad_1) 1 rfl rfl rfl (by kernel_rfl) (by kernel_rfl) (by kernel_rfl) (by kernel_rfl) (by kernel_rfl) (by kernel_rfl) (fun _ _ _ _ h => h) HS.out ?hd_1 ?kd_1
                case hd_1 => intro W hW K hK; obtain ⟨d0, d1, d2, d3⟩ := hW; go_simp; exact hK
                refine anyS_quiet (a2 := ?ad_2) 2 rfl rfl rfl (by kernel_rfl) (by kernel_rfl) (by kernel_rfl) (by kernel_rfl) (by kernel_rfl) (by kernel_rfl) (fun _ _ _ _ h => h) HS.out ?hd_2 ?kd_2
                case hd_2 => intro W hW K hK; obtain ⟨d0, d1, d2, d3⟩ := hW; go_simp; exact hK
                refine anyS_quiet (a2 := ?ae_4) 4 rfl rfl rfl (by kernel_rfl) (by kernel_rfl) (by kernel_rfl) (by kernel_rfl) (by kernel_rfl) (by kernel_rfl) (fun _ _ _ _ h => h) HS.out ?he_4 ?ke_4
                case he_4 => intro W hW K hK; obtain ⟨d0, d1, d2, d3⟩ := hW; go_simp; exact hK
                refine anyS_quiet (a2 := ?ae_5) 5 rfl rfl rfl (by kernel_rfl) (by kernel_rfl) (by kernel_rfl) (by kernel_rfl) (by kernel_rfl) (by kernel_rfl) (fun _ _ _ _ h => h) HS.out ?he_5 ?ke_5
                case he_5 => intro W hW K hK; obtain ⟨d0, d1, d2, d3⟩ := hW; go_simp; exact hK
                refine anyS_quiet (a2 := ?ae_6) 6 rfl rfl rfl (by kernel_rfl) (by kernel_rfl) (by kernel_rfl) (by kernel_rfl) (by kernel_rfl) (by kernel_rfl) (fun _ _ _ _ h => h) HS.out ?he_6 ?ke_6
                case he_6 => intro W hW K hK; obtain ⟨d0, d1, d2, d3⟩ := hW; go_simp; exact hK
                refine anyS_only 3 rfl (by kernel_rfl) ?_
                gi_wp2_with fail
                refine (callsIn_WF (takes_raw y.p _ _ _ _ HS.out.2.1 (by omega))).mono ?_
                rintro e w10 ⟨rfl, rfl⟩
                gi_wp2
                refine And.intro (.inr HS.out) ?_
                refine anyS_only 7 rfl (by kernel_rfl) ?_
                gi_wp2_with fail
                refine (callsIn_WF (gfree_raw x.hp 4 x.O OU _ HS.out.2.2.1 HS.out.2.2.2 hO0 hO1 hOU0 (by omega))).mono ?_
                rintro e w11 ⟨rfl, n11, hw11⟩
                have HS : Hid (w11.cell? ⟨bh, 0, none⟩ = some (.pointer (some ⟨x.hp, 0, none⟩)) ∧ w11.cell? ⟨y.p, 2, none⟩ = some (.slice (some ⟨y.arr, 0, none⟩) y.b.ws.length y.b.ws.length) ∧ w11.cell? ⟨x.hp, 4 + 1, none⟩ = some (.int .i64 x.O) ∧ w11.cell? ⟨x.hp, 4 + 2, none⟩ = some (.int .i64 OU)) := Lib.hid (by rw [hw11]; exact HS.out)
                have HH11 : Hid (Half w8 x w11 base (x.majB K k yv ov) (y :: x.yb.drop (k + 1))) := Lib.hid (by rw [hw11]; exact HH9.out.ext ((Ext.refl _).drewN n11))
                have b11 := HS.out.1
                have HP := Lib.hid (HH11.out.push_old Hroom.out)
                clear hw11 HH9 HB9
                gi_wp2
                refine And.intro (.inr HS.out) ?_
                refine anyS_quiet (a2 := ?af_8) 8 rfl rfl rfl (by kernel_rfl) (by kernel_rfl) (by kernel_rfl) (by kernel_rfl) (by kernel_rfl) (by kernel_rfl) (fun _ _ _ _ h => h) HS.out ?hf_8 ?kf_8
                case hf_8 => intro W hW K hK; obtain ⟨d0, d1, d2, d3⟩ := hW; go_simp; exact hK
                refine anyS_quiet (a2 := ?af_9) 9 rfl rfl rfl (by kernel_rfl) (by kernel_rfl) (by kernel_rfl) (by kernel_rfl) (by kernel_rfl) (by kernel_rfl) (fun _ _ _ _ h => h) HS.out ?hf_9 ?kf_9
                case hf_9 => intro W hW K hK; obtain ⟨d0, d1, d2, d3⟩ := hW; go_simp; exact hK
                refine anyS_only 10 rfl (by kernel_rfl) ?_
                gi_wp2
                refine And.intro (by kernel_rfl) ?_
                go_wp2_with (go_at_call 60; refine HP.out.mono ?_; rintro e w12 ⟨rfl, ov', hH9, -⟩)
                rw [PH.majB_old Hstep.out] at hH9
                have hemp : (x.fitAt K (k + 1)).2.isEmpty = true := by rw [Hstep.out]; simp [Hnil.out]
                exact ⟨⟨k + 1, yv, ov', hlt, by simp, by rw [hemp]; exact congrArg Value.bool (decide_eq_false (by have := Hdec.out; omega)), hH9⟩, by simp only [intOf]; omega⟩
              · have Hstep : Hid (x.fitAt K (k + 1) = ((x.fitAt K k).1, (x.fitAt K k).2 ++ [y])) := Lib.hid (by
                  rw [PH.fitAt_step Hyk.out Hin.out, if_pos hnil, if_neg (by have := HOU.out; simp only [PH.majB] at this; omega), hnil]; rfl)
                have Hroom : Hid ((x.majB K k yv ov).yu + (y.b.ws.length + 1) ≤ (x.majB K k yv ov).Y) := Lib.hid (fitAt_room h.ok Hyk.out Hin.out)
                have hdec : x.O - OU < (y.b.ws.length : Int) + 1 := by omega
                clear hF
                have Hnil := Lib.hid hnil
                clear hnil
                go_wp2_with fail
                refine region_S_plain (n := 3) (fun V => V.cell? ⟨bh, 0, none⟩ = some (.pointer (some ⟨x.hp, 0, none⟩)) ∧ V.cell? ⟨y.p, 2, none⟩ = some (.slice (some ⟨y.arr, 0, none⟩) y.b.ws.length y.b.ws.length) ∧ V.cell? ⟨x.hp, 4 + 1, none⟩ = some (.int .i64 x.O) ∧ V.cell? ⟨x.hp, 4 + 2, none⟩ = some (.int .i64 OU)) 10 (by kernel_rfl) ?_
                have HB9 : Hid (Blk wr.drew bh #[.pointer (some ⟨x.hp, 0, none⟩)] 25) := Lib.hid (Half.box Hh8.out HH.out Hbx8.out (by decide) (by decide) (by decide)).drew
                have HH9 := Lib.hid (HH.out.ext (Ext.refl wr).drew)
                generalize wr.drew = w9 at HS HH9 HB9 ⊢
                clear hgc hlk HH
                refine anyS_quiet (a2 := ?ag_0) 0 rfl rfl rfl (by kernel_rfl) (by kernel_rfl) (by kernel_rfl) (by kernel_rfl) (by kernel_rfl) (by kernel_rfl) (fun _ _ _ _ h => h) HS.out ?hg_0 ?kg_0
                case hg_0 => intro W hW K hK; obtain ⟨d0, d1, d2, d3⟩ := hW; go_simp; exact hK
                refine anyS_quiet (a2 := ?ag_1) 1 rfl rfl rfl (by kernel_rfl) (by kernel_rfl) (by kernel_rfl) (by kernel_rfl) (by kernel_rfl) (by kernel_rfl) (fun _ _ _ _ h => h) HS.out ?hg_1 ?kg_1
                case hg_1 => intro W hW K hK; obtain ⟨d0, d1, d2, d3⟩ := hW; go_simp; exact hK
                refine anyS_quiet (a2 := ?ag_2) 2 rfl rfl rfl (by kernel_rfl) (by kernel_rfl) (by kernel_rfl) (by kernel_rfl) (by kernel_rfl) (by kernel_rfl) (fun _ _ _ _ h => h) HS.out ?hg_2 ?kg_2
                case hg_2 => intro W hW K hK; obtain ⟨d0, d1, d2, d3⟩ := hW; go_simp; exact hK
                refine anyS_quiet (a2 := ?ah_4) 4 rfl rfl rfl (by kernel_rfl) (by kernel_rfl) (by kernel_rfl) (by kernel_rfl) (by kernel_rfl) (by kernel_rfl) (fun _ _ _ _ h => h) HS.out ?hh_4 ?kh_4
                case hh_4 => intro W hW K hK; obtain ⟨d0, d1, d2, d3⟩ := hW; go_simp; exact hK
                refine anyS_quiet (a2 := ?ah_5) 5 rfl rfl rfl (by kernel_rfl) (by kernel_rfl) (by kernel_rfl) (by kernel_rfl) (by kernel_rfl) (by kernel_rfl) (fun _ _ _ _ h => h) HS.out ?hh_5 ?kh_5
                case hh_5 => intro W hW K hK; obtain ⟨d0, d1, d2, d3⟩ := hW; go_simp; exact hK
                refine anyS_quiet (a2 := ?ah_6) 6 rfl rfl rfl (by kernel_rfl) (by kernel_rfl) (by kernel_rfl) (by kernel_rfl) (by kernel_rfl) (by kernel_rfl) (fun _ _ _ _ h => h) HS.out ?hh_6 ?kh_6
                case hh_6 => intro W hW K hK; obtain ⟨d0, d1, d2, d3⟩ := hW; go_simp; exact hK
                refine anyS_only 3 rfl (by kernel_rfl) ?_
                gi_wp2_with fail
                refine (callsIn_WF (takes_raw y.p _ _ _ _ HS.out.2.1 (by omega))).mono ?_
                rintro e w10 ⟨rfl, rfl⟩
                gi_wp2
                refine And.intro (.inr HS.out) ?_
                refine anyS_only 7 rfl (by kernel_rfl) ?_
                gi_wp2_with fail
                refine (callsIn_WF (gfree_raw x.hp 4 x.O OU _ HS.out.2.2.1 HS.out.2.2.2 hO0 hO1 hOU0 (by omega))).mono ?_
                rintro e w11 ⟨rfl, n11, hw11⟩
                have HS : Hid (w11.cell? ⟨bh, 0, none⟩ = some (.pointer (some ⟨x.hp, 0, none⟩)) ∧ w11.cell? ⟨y.p, 2, none⟩ = some (.slice (some ⟨y.arr, 0, none⟩) y.b.ws.length y.b.ws.length) ∧ w11.cell? ⟨x.hp, 4 + 1, none⟩ = some (.int .i64 x.O) ∧ w11.cell? ⟨x.hp, 4 + 2, none⟩ = some (.int .i64 OU)) := Lib.hid (by rw [hw11]; exact HS.out)
                have HH11 : Hid (Half w8 x w11 base (x.majB K k yv ov) (y :: x.yb.drop (k + 1))) := Lib.hid (by rw [hw11]; exact HH9.out.ext ((Ext.refl _).drewN n11))
                have b11 := HS.out.1
                have HP := Lib.hid (HH11.out.push_young Hroom.out)
                clear hw11 HH9 HB9
                gi_wp2
                refine And.intro (.inr HS.out) ?_
                refine anyS_quiet (a2 := ?ai_8) 8 rfl rfl rfl (by kernel_rfl) (by kernel_rfl) (by kernel_rfl) (by kernel_rfl) (by kernel_rfl) (by kernel_rfl) (fun _ _ _ _ h => h) HS.out ?hi_8 ?ki_8
                case hi_8 => intro W hW K hK; obtain ⟨d0, d1, d2, d3⟩ := hW; go_simp; exact hK
                refine anyS_quiet (a2 := ?ai_9) 9 rfl rfl rfl (by kernel_rfl) (by kernel_rfl) (by kernel_rfl) (by kernel_rfl) (by kernel_rfl) (by kernel_rfl) (fun _ _ _ _ h => h) HS.out ?hi_9 ?ki_9
                case hi_9 => intro W hW K hK; obtain ⟨d0, d1, d2, d3⟩ := hW; go_simp; exact hK
                refine anyS_only 10 rfl (by kernel_rfl) ?_
                gi_wp2
                refine And.intro (by kernel_rfl) ?_
                go_wp2_with (go_at_call 60; refine HP.out.mono ?_; rintro e w12 ⟨rfl, yv', hH9, -⟩)
                rw [PH.majB_young Hstep.out] at hH9
                have hemp : (x.fitAt K (k + 1)).2.isEmpty = false := by rw [Hstep.out]; simp
                exact ⟨⟨k + 1, yv', ov, hlt, by simp, by rw [hemp]; rfl, hH9⟩, by simp only [intOf]; omega⟩
            | false =>
              have hnn : (x.fitAt K k).2 ≠ [] := by intro e; rw [e] at hF; simp at hF
              have Hstep : Hid (x.fitAt K (k + 1) = ((x.fitAt K k).1, (x.fitAt K k).2 ++ [y])) := Lib.hid (by
                rw [PH.fitAt_step Hyk.out Hin.out, if_neg hnn])
              have Hroom : Hid ((x.majB K k yv ov).yu + (y.b.ws.length + 1) ≤ (x.majB K k yv ov).Y) := Lib.hid (fitAt_room h.ok Hyk.out Hin.out)
              clear hF hnn
              go_wp2_with fail
              refine region_S_plain (n := 3) (fun V => V.cell? ⟨bh, 0, none⟩ = some (.pointer (some ⟨x.hp, 0, none⟩)) ∧ V.cell? ⟨y.p, 2, none⟩ = some (.slice (some ⟨y.arr, 0, none⟩) y.b.ws.length y.b.ws.length) ∧ V.cell? ⟨x.hp, 4 + 1, none⟩ = some (.int .i64 x.O) ∧ V.cell? ⟨x.hp, 4 + 2, none⟩ = some (.int .i64 OU)) 10 (by kernel_rfl) ?_
              have HH9 := Lib.hid (HH.out.ext (Ext.refl wr).drew)
              generalize wr.drew = w9 at HS HH9 ⊢
              clear hgc hlk HH
              have b11 := HS.out.1
              have HP := Lib.hid (HH9.out.push_young Hroom.out)
              refine anyS_quiet (a2 := ?aj_0) 0 rfl rfl rfl (by kernel_rfl) (by kernel_rfl) (by kernel_rfl) (by kernel_rfl) (by kernel_rfl) (by kernel_rfl) (fun _ _ _ _ h => h) HS.out ?hj_0 ?kj_0
              case hj_0 => intro W hW K hK; obtain ⟨d0, d1, d2, d3⟩ := hW; go_simp; exact hK
              refine anyS_quiet (a2 := ?aj_1) 1 rfl rfl rfl (by kernel_rfl) (by kernel_rfl) (by kernel_rfl) (by kernel_rfl) (by kernel_rfl) (by kernel_rfl) (fun _ _ _ _ h => h) HS.out ?hj_1 ?kj_1
              case hj_1 => intro W hW K hK; obtain ⟨d0, d1, d2, d3⟩ := hW; go_simp; exact hK
              refine anyS_quiet (a2 := ?aj_2) 2 rfl rfl rfl (by kernel_rfl) (by kernel_rfl) (by kernel_rfl) (by kernel_rfl) (by kernel_rfl) (by kernel_rfl) (fun _ _ _ _ h => h) HS.out ?hj_2 ?kj_2
              case hj_2 => intro W hW K hK; obtain ⟨d0, d1, d2, d3⟩ := hW; go_simp; exact hK
              refine anyS_quiet (a2 := ?ak_4) 4 rfl rfl rfl (by kernel_rfl) (by kernel_rfl) (by kernel_rfl) (by kernel_rfl) (by kernel_rfl) (by kernel_rfl) (fun _ _ _ _ h => h) HS.out ?hk_4 ?kk_4
              case hk_4 => intro W hW K hK; obtain ⟨d0, d1, d2, d3⟩ := hW; go_simp; exact hK
              refine anyS_quiet (a2 := ?ak_5) 5 rfl rfl rfl (by kernel_rfl) (by kernel_rfl) (by kernel_rfl) (by kernel_rfl) (by kernel_rfl) (by kernel_rfl) (fun _ _ _ _ h => h) HS.out ?hk_5 ?kk_5
              case hk_5 => intro W hW K hK; obtain ⟨d0, d1, d2, d3⟩ := hW; go_simp; exact hK
              refine anyS_quiet (a2 := ?ak_6) 6 rfl rfl rfl (by kernel_rfl) (by kernel_rfl) (by kernel_rfl) (by kernel_rfl) (by kernel_rfl) (by kernel_rfl) (fun _ _ _ _ h => h) HS.out ?hk_6 ?kk_6
              case hk_6 => intro W hW K hK; obtain ⟨d0, d1, d2, d3⟩ := hW; go_simp; exact hK
              refine anyS_only 3 rfl (by kernel_rfl) ?_
              gi_wp2
              refine And.intro (.inr HS.out) ?_
              refine anyS_only 7 rfl (by kernel_rfl) ?_
              gi_wp2
              refine And.intro (.inr HS.out) ?_
              refine anyS_quiet (a2 := ?al_8) 8 rfl rfl rfl (by kernel_rfl) (by kernel_rfl) (by kernel_rfl) (by kernel_rfl) (by kernel_rfl) (by kernel_rfl) (fun _ _ _ _ h => h) HS.out ?hl_8 ?kl_8
              case hl_8 => intro W hW K hK; obtain ⟨d0, d1, d2, d3⟩ := hW; go_simp; exact hK
              refine anyS_quiet (a2 := ?al_9) 9 rfl rfl rfl (by kernel_rfl) (by kernel_rfl) (by kernel_rfl) (by kernel_rfl) (by kernel_rfl) (by kernel_rfl) (fun _ _ _ _ h => h) HS.out ?hl_9 ?kl_9
              case hl_9 => intro W hW K hK; obtain ⟨d0, d1, d2, d3⟩ := hW; go_simp; exact hK
              refine anyS_only 10 rfl (by kernel_rfl) ?_
              gi_wp2
              refine And.intro (by kernel_rfl) ?_
              go_wp2_with (go_at_call 60; refine HP.out.mono ?_; rintro e w12 ⟨rfl, yv', hH9, -⟩)
              rw [PH.majB_young Hstep.out] at hH9
              have hemp : (x.fitAt K (k + 1)).2.isEmpty = false := by rw [Hstep.out]; simp
              exact ⟨⟨k + 1, yv', ov, hlt, by simp, by rw [hemp]; rfl, hH9⟩, by simp only [intOf]; omega⟩
          · rw [decide_eq_false hin] at hlk
            have Hin := Lib.hid hin
            clear hin
            rw [Hya.out]
            go_wp2
            have hH9 := HH.out.skip
            rw [← PH.majB_skip Hyk.out Hin.out] at hH9
            exact ⟨⟨k + 1, yv, ov, hlt, by simp, by rw [PH.fitAt_skip Hyk.out Hin.out], hH9⟩, by simp only [intOf]; omega⟩
        · have hkn : k = x.yb.length := by omega
          subst hkn
          rw [List.drop_length] at HH
          have hfitL : x.fitAt K x.yb.length = fitsPB (x.O - bused ((keptPB K x.ob).map PB.b)) (keptPB K x.yb) := by unfold PH.fitAt; rw [List.take_length]
          obtain ⟨A, B, hAB⟩ : ∃ A B, x.fitAt K x.yb.length = (A, B) := ⟨_, _, rfl⟩
          have happ : A ++ B = keptPB K x.yb := by
            have := fitsPB_append (x.O - bused ((keptPB K x.ob).map PB.b)) (keptPB K x.yb)
            rw [← hfitL, hAB] at this; exact this
          obtain ⟨x1, hx1⟩ : ∃ x1 : PH, x.majB K x.yb.length yv ov = x1 := ⟨_, rfl⟩
          rw [hx1] at HH
          have hx1a : x1.all = shiftPB 1 B ++ shiftPB (x.Y + 1) (keptPB K x.ob ++ A) := by rw [← hx1]; simp [PH.all, PH.majB, hAB]
          have hav : x1.av = x.av := by rw [← hx1]; rfl
          have hrv : x1.rv = x.rv := by rw [← hx1]; rfl
          have hRR : x1.R = x.R := by rw [← hx1]; rfl
          have hx1hp : x1.hp = x.hp := by rw [← hx1]; rfl
          have hkO : (keptPB K x.ob).map PB.b = x.log.keptO roots := keptPB_map h.ok h.ps (q := fun _ => true) (fun _ _ => rfl) (fun _ => Iff.rfl) HK.out HKs.out fun y hy => List.mem_append_right _ hy
          have hkY : (keptPB K x.yb).map PB.b = x.log.keptY roots := keptPB_map h.ok h.ps (q := fun _ => true) (fun _ _ => rfl) (fun _ => Iff.rfl) HK.out HKs.out fun y hy => List.mem_append_left _ hy
          have hfit2 : x.log.fit roots = (A.map PB.b, B.map PB.b) := by
            have h1 := fitsPB_map (x.O - bused ((keptPB K x.ob).map PB.b)) (keptPB K x.yb)
            rw [← hfitL, hAB, hkO, hkY] at h1
            unfold LH.fit
            exact Prod.ext h1.1.symm h1.2.symm
          have hf1 : mvTo ((keptPB K x.ob ++ A ++ B).map PB.b) ((shiftPB (x.Y + 1) (keptPB K x.ob ++ A) ++ shiftPB 1 B).map PB.b) = x.log.majorF roots := by
            unfold LH.majorF LH.newO LH.newY
            rw [hfit2, ← hkO]
            simp only [List.map_append, shiftPB_map]; rfl
          have hsubK : ∀ y, y ∈ keptPB K x.ob ++ A ++ B ↔ y ∈ x.all ∧ y.p ∈ K.map PB.p := fun y => by
            rw [List.append_assoc, happ, List.mem_append, mem_keptPB, mem_keptPB]
            unfold PH.all
            rw [List.mem_append]
            constructor
            · rintro (⟨h1, h2⟩ | ⟨h1, h2⟩)
              · exact ⟨.inr h1, h2⟩
              · exact ⟨.inl h1, h2⟩
            · rintro ⟨h1 | h1, h2⟩
              · exact .inr ⟨h1, h2⟩
              · exact .inl ⟨h1, h2⟩
          have hbx : Hid (Blk wr bh #[.pointer (some ⟨x.hp, 0, none⟩)] 25) := Lib.hid (Half.box Hh8.out HH.out Hbx8.out (by decide) (by decide) (by decide))
          have br : wr.cell? ⟨bh, 0, none⟩ = some (.pointer (some ⟨x.hp, 0, none⟩)) := (hbx.out.cell 0).trans rfl
          have hmid := Mid.of Hh8.out HH.out hav (.inl hrv) (by
              obtain ⟨es, ck, hm, r⟩ := Hh8.out.rmap
              refine ⟨es, ck, ?_, by rw [hRR]; exact r⟩
              rw [hrv]
              rcases hm with hm | ⟨m', e, hm⟩
              · exact .inl hm
              · exact .inr ⟨m', e, HH.out.map_keep Hh8.out hm⟩)
            (L0 := keptPB K x.ob ++ A ++ B) (L1 := shiftPB (x.Y + 1) (keptPB K x.ob ++ A) ++ shiftPB 1 B) ((Mv.shift _ _).append (Mv.shift _ _)) (fun y => by rw [hx1a, List.mem_append, List.mem_append, or_comm])
            (fun y hy => ((hsubK y).1 hy).1)
            (by
              have hsub : (keptPB K x.yb ++ keptPB K x.ob).Sublist x.all := List.Sublist.append List.filter_sublist List.filter_sublist
              have := h.ok.ats.sublist (hsub.map fun y => y.b.at_)
              rw [List.append_assoc, happ]
              exact ((List.perm_append_comm (l₁ := keptPB K x.ob) (l₂ := keptPB K x.yb)).map fun y => y.b.at_).nodup_iff.2 this)
            (fun y hy u huy hu => by
              obtain ⟨hym, hyK⟩ := (hsubK y).1 hy
              obtain ⟨z, hz1, hz2, hz3⟩ := major_closed h.ps HK.out HKs.out hu (Hinv.out.ref y.b (by rw [log_all]; exact List.mem_map_of_mem hym) u huy) (.inr ⟨y, hym, hyK, huy⟩)
              exact ⟨z, (hsubK z).2 ⟨hz1, hz2⟩, hz3⟩)
          obtain ⟨es8, ck8, hmid, href⟩ := hmid
          rw [hf1] at hmid href
          have hroots : ∀ u ∈ roots, refW u ≠ 0 → ∃ z ∈ x1.all, esGet es8.toList u.a = some z.ptr ∧ x.log.majorF roots u.a = z.b.at_ := fun u hu hn => by
            refine href u hn ?_
            obtain ⟨z, hz1, hz2, hz3⟩ := major_closed h.ps HK.out HKs.out hn (by
              have := Hb.out
              rw [List.any_eq_false] at this
              simpa using this u hu) (.inl hu)
            exact ⟨z, (hsubK z).2 ⟨hz1, hz2⟩, hz3⟩
          have hrV : RdW wr v roots := (Hr.out.ext HX8.out).kept2 HH.out.kp fun hn k hk hS => Hd.out hn k hk hS.fp
          have Hbad := Lib.hid (mid_bad hmid)
          have Hset := Lib.hid (settle_any hmid hrV (by omega) hroots)
          rw [hx1hp] at Hset
          have Hav := Lib.hid hav; have Hrv := Lib.hid hrv; have Hx1hp := Lib.hid hx1hp
          have HVs : Hid (w.heap.size ≤ wr.heap.size) := Lib.hid (Nat.le_trans HX8.out.size HH.out.kp.size)
          have hlogO : x1.ob.map PB.b = x.log.newO roots := by
            unfold LH.newO; rw [hfit2, ← hkO, ← hx1, ← List.map_append]; simp only [PH.majB, hAB, shiftPB_map]; rfl
          have hlogY : x1.yb.map PB.b = x.log.newY roots := by
            unfold LH.newY; rw [hfit2, ← hx1]; simp only [PH.majB, hAB, shiftPB_map]
          have hYO : x1.Y = x.Y ∧ x1.O = x.O := by rw [← hx1]; exact ⟨rfl, rfl⟩
          have HlogO := Lib.hid hlogO; have HlogY := Lib.hid hlogY; have HYO := Lib.hid hYO
          have Hpp2 : Hid (pp = (⟨x.log.Y, x.log.O, (x.log.newY roots).map (mvB (x.log.majorF roots)), (x.log.newO roots).map (mvB (x.log.majorF roots)), (((x.log.newO roots).map (mvB (x.log.majorF roots))).filter x.log.toY).map Bk.at_⟩, roots.map (mvW (x.log.majorF roots)), 0)) := Lib.hid (by
            rw [Hpp.out]; unfold LH.major; rw [if_neg (by rw [Hb.out]; simp)])
          clear hfitL hAB happ hx1 hx1a hav hrv hRR hkO hkY hfit2 hf1 hsubK hmid href hroots hrV hx1hp hlogO hlogY hYO
          go_wp2_with fail
          refine Hset.out.mono ?_
          rintro e w9 ⟨v', m', rfl, hown9, hrep9, hk9, hm9⟩
          have Hown9 := Lib.hid hown9; have Hrep9 := Lib.hid hrep9; have Hk9 := Lib.hid hk9; have Hm9 := Lib.hid hm9
          clear hown9 hrep9 hk9 hm9 br
          obtain ⟨hkw, hfp2⟩ := Half.keeps (f := x.log.majorF roots) HX8.out HH.out Hav.out (.inl Hrv.out) Hk9.out Hm9.out
          have Harr2 : Hid (∀ k ∈ (x1.moved (x.log.majorF roots) m').all.map PB.arr, k ∈ x.all.map PB.arr) := Lib.hid fun k hk2 => by
            rw [mvPB_all, List.map_map] at hk2
            obtain ⟨y, hy, rfl⟩ := List.mem_map.1 hk2
            obtain ⟨z, hz, _, e⟩ := HH.out.sub y (List.mem_append_left _ hy)
            exact List.mem_map.2 ⟨z, hz, e⟩
          have Hkw := Lib.hid hkw; have Hfp2 := Lib.hid hfp2
          have hbx9 : Blk w9 bh #[.pointer (some ⟨x.hp, 0, none⟩)] 25 := Hk9.out.blk hbx.out (fun hf => by
            have h1 := HX8.out.size
            have h2 := Hbx8.out.lt
            have h3 := Hbh.out
            rcases HH.out.fp Hav.out (.inl Hrv.out) bh hf with h4 | h4
            · have := h.fp_lt bh h4; omega
            · omega)
          have hm := run_makeMap (P := Try.prog) 79 w9
          obtain ⟨x2, hx2⟩ : ∃ x2, x1.moved (x.log.majorF roots) m' = x2 := ⟨_, rfl⟩
          have hx2hp : x2.hp = x.hp := by rw [← hx2]; exact Hx1hp.out
          have hx2Y : x2.Y = x.Y := by rw [← hx2]; exact HYO.out.1
          have hx2O : x2.O = x.O := by rw [← hx2]; exact HYO.out.2
          have hx2b := Hbad.out m'
          rw [hx2] at Hrep9 hx2b
          have hx2o : x2.ob.map PB.b = (x.log.newO roots).map (mvB (x.log.majorF roots)) := by
            rw [← hx2, ← HlogO.out]; simp [PH.moved, mvPB, mvB, Function.comp_def]
          have hx2y : x2.yb.map PB.b = (x.log.newY roots).map (mvB (x.log.majorF roots)) := by
            rw [← hx2, ← HlogY.out]; simp [PH.moved, mvPB, mvB, Function.comp_def]
          have Hx2arr : Hid (∀ k ∈ x2.all.map PB.arr, k ∈ x.all.map PB.arr) := Lib.hid (by rw [← hx2]; exact Harr2.out)
          have hx2fp : ∀ k, x2.fp k → x.fp k ∨ w.heap.size ≤ k := by rw [← hx2]; exact Hfp2.out
          have Hx2hp := Lib.hid hx2hp; have Hx2Y := Lib.hid hx2Y; have Hx2O := Lib.hid hx2O; have Hx2b := Lib.hid hx2b; have Hx2o := Lib.hid hx2o; have Hx2y := Lib.hid hx2y; have Hx2fp := Lib.hid hx2fp
          have b9 : w9.cell? ⟨bh, 0, none⟩ = some (.pointer (some ⟨x.hp, 0, none⟩)) := (hbx9.cell 0).trans rfl
          have h9 : w9.cell? ⟨x.hp, 9, none⟩ = some x2.rv := by rw [← hx2hp]; exact (Hrep9.out.cell 9).trans rfl
          have h9' : (w9.alloc (.map #[] 0)).cell? ⟨x.hp, 9, none⟩ = some x2.rv := by rw [← hx2hp]; exact ((Hrep9.out.blk.alloc (.map #[] 0)).cell 9).trans rfl
          have f9 : w9.frozen? ⟨x.hp, 9, none⟩ = false := by rw [← hx2hp]; exact Hrep9.out.blk.frozen 9
          have f9' : (w9.alloc (.map #[] 0)).frozen? ⟨x.hp, 9, none⟩ = false := by rw [← hx2hp]; exact (Hrep9.out.blk.alloc (.map #[] 0)).frozen 9
          have Hbx9 := Lib.hid hbx9
          have hbhlt : bh ≠ x.hp := by rw [← hx2hp]; exact hbx9.ne Hrep9.out.blk (by decide)
          obtain ⟨oa2, oc2, hov2, hor2⟩ := rowP_of Hrep9.out.orow
          have h7 : ((w9.alloc (.map #[] 0)).setCell ⟨x.hp, 9, none⟩ (.map (some w9.heap.size))).cell? ⟨x.hp, 7, none⟩ = some (.slice oa2 x2.ob.length oc2) := by
            rw [← hov2, ← hx2hp]; exact (Hrep9.out.newRv.cell 7).trans rfl
          have b10 : ((w9.alloc (.map #[] 0)).setCell ⟨x.hp, 9, none⟩ (.map (some w9.heap.size))).cell? ⟨bh, 0, none⟩ = some (.pointer (some ⟨x.hp, 0, none⟩)) :=
            ((((hbx9.alloc (.map #[] 0)).far (a := ⟨x.hp, 9, none⟩) hbhlt (.map (some w9.heap.size))).cell 0)).trans rfl
          have Hov2 := Lib.hid hov2
          clear hkw hfp2 hbx9 hx2 hx2hp hx2Y hx2O hx2b hx2o hx2y hx2fp hov2 hor2 hbhlt HlogO HlogY HYO Hbad HH
          go_wp2_with fail
          clear hm b9 h9 h9' f9 f9' h7 b10 Hset
          obtain ⟨V, hV⟩ : ∃ V, (w9.alloc (.map #[] 0)).setCell ⟨x.hp, 9, none⟩ (.map (some w9.heap.size)) = V := ⟨_, rfl⟩
          rw [hV]
          obtain ⟨x3, hx3⟩ : ∃ x3 : PH, { x2 with rv := .map (some w9.heap.size), R := [] } = x3 := ⟨_, rfl⟩
          have hR3 : HRep V base x3 := by rw [← hV, ← hx3, ← Hx2hp.out]; exact Hrep9.out.newRv
          have hV9 : Keeps (· = x.hp) w9 V := by rw [← hV]; exact ((Keeps.refl (· = x.hp) w9).alloc _).setCell (p := ⟨x.hp, 9, none⟩) (.inl rfl) _
          obtain ⟨r, hr⟩ : ∃ r, w9.heap.size = r := ⟨_, rfl⟩
          have h3hp : x3.hp = x.hp := by rw [← hx3]; exact Hx2hp.out
          have h3Y : x3.Y = x.Y := by rw [← hx3]; exact Hx2Y.out
          have h3ob : x3.ob = x2.ob := by rw [← hx3]
          have h3rv : x3.rv = .map (some r) := by rw [← hx3, ← hr]
          have h3ov : x3.ov = .slice oa2 x2.ob.length oc2 := by rw [← hx3]; exact Hov2.out
          have h3bad : ∀ y ∈ x3.all, ∀ u ∈ y.b.ws, x3.bad u = false := by rw [← hx3]; exact Hx2b.out
          have h3R : x3.remK x.log.toY 0 = x3 := by rw [← hx3]; simp [PH.remK, remAt]
          have hbhr : bh ≠ r := by have := Hbx9.out.lt; omega
          have hbV : Blk V bh #[.pointer (some ⟨x.hp, 0, none⟩)] 25 := hV9.blk Hbx9.out (Hbx9.out.ne (by rw [← Hx2hp.out]; exact Hrep9.out.blk) (by decide))
          have HR3 : Hid (HRep V base (x3.remK x.log.toY 0)) := Lib.hid (by rw [h3R]; exact hR3)
          have HV9 := Lib.hid hV9; have H3hp := Lib.hid h3hp; have H3Y := Lib.hid h3Y; have H3ob := Lib.hid h3ob; have H3rv := Lib.hid h3rv; have H3ov := Lib.hid h3ov; have H3bad := Lib.hid h3bad; have HbV := Lib.hid hbV; have Hbhr := Lib.hid hbhr; have Hx3 := Lib.hid hx3; have Hr9 := Lib.hid hr
          have hn3 : x2.ob.length ≤ 100000 := by
            have h1 := bused_len (x3.ob.map PB.b); rw [List.length_map, ← hR3.ok.ou] at h1; have := hR3.ok.ou1; have := hR3.ok.O1; rw [h3ob] at h1; omega
          clear hV hx3 hR3 hV9 hr h3hp h3Y h3ob h3rv h3ov h3bad h3R hbhr hbV
          go_loopw [122] (fun i wr => ∃ k : Nat, k ≤ x2.ob.length ∧ i = .int .i64 k ∧ Hid (HRep wr base (x3.remK x.log.toY k)) ∧ Hid (Keeps (· = r) V wr)) (fun i wr => x2.ob.length - (intOf i).toNat)
          case atStart => exact ⟨0, Nat.zero_le _, rfl, HR3, Lib.hid (Keeps.refl _ V)⟩
          case round =>
            clear HR3
            obtain ⟨k, hk, rfl, HR, HK3⟩ := hrel
            by_cases hlt : k < x2.ob.length
            · obtain ⟨y, hyk⟩ : ∃ y, x2.ob[k]? = some y := ⟨_, List.getElem?_eq_getElem hlt⟩
              have hyo : y ∈ x3.ob := by rw [H3ob.out]; exact List.mem_of_getElem? hyk
              have hym : y ∈ (x3.remK x.log.toY k).all := List.mem_append_right _ hyo
              obtain ⟨oa3, oc3, hov3, hor3⟩ := rowP_of HR.out.orow
              have hoa : oa3 = oa2 := by
                have h1 : x3.ov = .slice oa3 (x3.remK x.log.toY k).ob.length oc3 := hov3
                rw [H3ov.out] at h1; injection h1 with h1; exact h1.symm
              obtain ⟨g, hg, hcell⟩ := hor3.get (i := k) (y := y) (by rw [← hyk]; show x3.ob[k]? = _; rw [H3ob.out])
              rw [hoa] at hg
              have hcell' : wr.cell? ⟨g, k, none⟩ = some (.pointer (some ⟨y.p, 0, none⟩)) := hcell
              have hpb := HR.out.pbs y hym
              have y2 : wr.cell? ⟨y.p, 2, none⟩ = some (.slice (some ⟨y.arr, 0, none⟩) y.b.ws.length y.b.ws.length) := (hpb.st.cell 2).trans rfl
              have hbb : Blk wr bh #[.pointer (some ⟨x.hp, 0, none⟩)] 25 := HK3.out.blk HbV.out Hbhr.out
              have hrhp : (x3.remK x.log.toY k).hp = x.hp := H3hp.out
              have HC := Lib.hid (ContainsW_any (enters_of Try.func65 (by kernel_rfl) rfl) (rdW_of_pb hpb) (Nat.le_trans (HR.out.ok.len hym) (by omega)) (fun u => decide (refW u ≠ 0 ∧ refW u ≤ (x3.remK x.log.toY k).Y)) (lb := #[.pointer (some ⟨bh, 0, none⟩)])
                (fun u hu W hW => MajorF2_any (HR.out.ext hW) (by rw [hrhp]; exact hW.blk hbb id) (H3bad.out y (List.mem_append_right _ hyo) u hu)))
              have hany : (y.b.ws.any fun u => decide (refW u ≠ 0 ∧ refW u ≤ (x3.remK x.log.toY k).Y)) = x.log.toY y.b := by
                have : (x3.remK x.log.toY k).Y = x.log.Y := H3Y.out
                rw [this]; rfl
              rw [hany] at HC
              have Hyk := Lib.hid hyk; have Hyo := Lib.hid hyo; have Hym := Lib.hid hym; have Hbb := Lib.hid hbb
              clear hcell hov3 hor3 hpb hany hyk hyo hym hbb hoa
              rw [hg]
              go_wp2_with fail
              refine HC.out.mono ?_
              rintro e w11 ⟨rfl, hx11⟩
              have HR11 := Lib.hid (HR.out.ext hx11)
              have HK11 : Hid (Keeps (· = r) V w11) := Lib.hid (HK3.out.trans' hx11 fun _ _ h => h.elim)
              have Hbb11 := Lib.hid (hx11.blk Hbb.out id)
              clear hx11 HR HK3 HC hcell' y2 Hbb
              cases hq : x.log.toY y.b with
              | false =>
                have Hq := Lib.hid hq; clear hq
                go_wp2
                have e1 : x3.remK x.log.toY (k + 1) = x3.remK x.log.toY k := by unfold PH.remK; rw [remAt_skip (by rw [H3ob.out]; exact Hyk.out) Hq.out]
                exact ⟨⟨k + 1, hlt, by simp, by rw [e1]; exact HR11, HK11⟩, by simp only [intOf]; omega⟩
              | true =>
                have Hq := Lib.hid hq; clear hq
                obtain ⟨es4, ck4, hm4, he4, hg4⟩ := HR11.out.rmap
                have hm4' : w11.heap[r]? = some (.map es4 ck4) := by
                  rw [show (x3.remK x.log.toY k).rv = .map (some r) from H3rv.out] at hm4; exact hm4.lt
                obtain ⟨es', c', hrun, he', hg', -, -⟩ := run_mapUpdate_int (P := Try.prog) Try.underlying79 (q := .i64) Try.underlying3 r he4 y.b.at_ (.bool true)
                have hrem := (HR11.out.ext (Ext.refl w11).drew).remember (r := r) H3rv.out he' hm4' hg4 hg'
                have e1 : ({ x3.remK x.log.toY k with R := insR y.b.at_ (x3.remK x.log.toY k).R } : PH) = x3.remK x.log.toY (k + 1) := by
                  unfold PH.remK
                  rw [show insR y.b.at_ (remAt x.log.toY x3.ob k) = remAt x.log.toY x3.ob (k + 1) from remAt_step (by rw [H3ob.out]; exact Hyk.out) Hq.out HR11.out.ok.do_]
                rw [e1] at hrem
                have Hrun := Lib.hid (hrun w11.drew hm4')
                have Hrem := Lib.hid hrem
                have HKm : Hid (Keeps (· = r) V (w11.drew.putObj r (.map es' c'))) := Lib.hid (Keeps.putObj HK11.out.drew (.inl rfl) _)
                have hpb := HR11.out.pbs y Hym.out
                have HS : Hid (w11.drew.cell? ⟨bh, 0, none⟩ = some (.pointer (some ⟨x.hp, 0, none⟩)) ∧ w11.drew.cell? ⟨x.hp, 9, none⟩ = some (.map (some r)) ∧ w11.drew.cell? ⟨y.p, 0, none⟩ = some (.int .i64 y.b.at_)) :=
                  Lib.hid ⟨(Hbb11.out.cell 0).trans rfl, by rw [← H3hp.out, ← H3rv.out]; exact (HR11.out.cell 9).trans rfl, (hpb.st.cell 0).trans rfl⟩
                clear hm4 hm4' he4 hg4 hrun he' hg' hrem e1 hpb
                go_wp2_with fail
                refine region_S_plain (n := 3) (fun V => V.cell? ⟨bh, 0, none⟩ = some (.pointer (some ⟨x.hp, 0, none⟩)) ∧ V.cell? ⟨x.hp, 9, none⟩ = some (.map (some r)) ∧ V.cell? ⟨y.p, 0, none⟩ = some (.int .i64 y.b.at_)) 8 (by kernel_rfl) ?_
                generalize w11.drew = w12 at HS Hrem HKm Hrun ⊢
                refine anyS_quiet (a2 := ?am_0) 0 rfl rfl rfl (by kernel_rfl) (by kernel_rfl) (by kernel_rfl) (by kernel_rfl) (by kernel_rfl) (by kernel_rfl) (fun _ _ _ _ h => h) HS.out ?hm_0 ?km_0
                case hm_0 => intro W hW K hK; obtain ⟨d0, d1, d2⟩ := hW; go_simp; exact hK
                refine anyS_quiet (a2 := ?am_1) 1 rfl rfl rfl (by kernel_rfl) (by kernel_rfl) (by kernel_rfl) (by kernel_rfl) (by kernel_rfl) (by kernel_rfl) (fun _ _ _ _ h => h) HS.out ?hm_1 ?km_1
                case hm_1 => intro W hW K hK; obtain ⟨d0, d1, d2⟩ := hW; go_simp; exact hK
                refine anyS_quiet (a2 := ?am_2) 2 rfl rfl rfl (by kernel_rfl) (by kernel_rfl) (by kernel_rfl) (by kernel_rfl) (by kernel_rfl) (by kernel_rfl) (fun _ _ _ _ h => h) HS.out ?hm_2 ?km_2
                case hm_2 => intro W hW K hK; obtain ⟨d0, d1, d2⟩ := hW; go_simp; exact hK
                refine anyS_quiet (a2 := ?am_3) 3 rfl rfl rfl (by kernel_rfl) (by kernel_rfl) (by kernel_rfl) (by kernel_rfl) (by kernel_rfl) (by kernel_rfl) (fun _ _ _ _ h => h) HS.out ?hm_3 ?km_3
                case hm_3 => intro W hW K hK; obtain ⟨d0, d1, d2⟩ := hW; go_simp; exact hK
                refine anyS_quiet (a2 := ?am_4) 4 rfl rfl rfl (by kernel_rfl) (by kernel_rfl) (by kernel_rfl) (by kernel_rfl) (by kernel_rfl) (by kernel_rfl) (fun _ _ _ _ h => h) HS.out ?hm_4 ?km_4
                case hm_4 => intro W hW K hK; obtain ⟨d0, d1, d2⟩ := hW; go_simp; exact hK
                refine anyS_quiet (a2 := ?am_5) 5 rfl rfl rfl (by kernel_rfl) (by kernel_rfl) (by kernel_rfl) (by kernel_rfl) (by kernel_rfl) (by kernel_rfl) (fun _ _ _ _ h => h) HS.out ?hm_5 ?km_5
                case hm_5 => intro W hW K hK; obtain ⟨d0, d1, d2⟩ := hW; go_simp; exact hK
                refine anyS_quiet (a2 := ?am_6) 6 rfl rfl rfl (by kernel_rfl) (by kernel_rfl) (by kernel_rfl) (by kernel_rfl) (by kernel_rfl) (by kernel_rfl) (fun _ _ _ _ h => h) HS.out ?hm_6 ?km_6
                case hm_6 => intro W hW K hK; obtain ⟨d0, d1, d2⟩ := hW; go_simp; exact hK
                refine anyS_quiet (a2 := ?am_7) 7 rfl rfl rfl (by kernel_rfl) (by kernel_rfl) (by kernel_rfl) (by kernel_rfl) (by kernel_rfl) (by kernel_rfl) (fun _ _ _ _ h => h) HS.out ?hm_7 ?km_7
                case hm_7 => intro W hW K hK; obtain ⟨d0, d1, d2⟩ := hW; go_simp; exact hK
                refine anyS_only 8 rfl (by kernel_rfl) ?_
                refine wpListIn_skip rfl (fun c e => by cases e) (w2 := w12.putObj r (.map es' c')) ?_ ?_
                · simp [execOp, go_sem, Hrun.out, Result.andThen]
                unfold wpListIn
                refine And.intro (.inl rfl) ?_
                refine anyS_done (by kernel_rfl) ?_ _
                go_wp2
                exact ⟨⟨k + 1, hlt, by simp, Hrem, HKm⟩, by simp only [intOf]; omega⟩
            · have hkn : k = x2.ob.length := by omega
              subst hkn
              go_wp2
              go_ret2
              rw [Hpp2.out]
              refine ⟨v', rfl, ?_, x3.remK x.log.toY x2.ob.length, HR.out, H3hp.out, ?_, ?_, ?_, ?_⟩
              · have hown : wr.ownsRow w.heap.size 33 6 v' roots.length (flatL (roots.map (mvW (x.log.majorF roots)))) := by
                  refine ownsRow_keeps (ownsRow_base Hown9.out HVs.out) fun j hj => ?_
                  obtain ⟨cur, hb⟩ := ownsRow_type Hown9.out hj
                  have hlt9 := hb.lt
                  have hr9 := Hr9.out
                  refine (HK3.out.block j (Nat.lt_of_lt_of_le hlt9 HV9.out.size) (by omega)).trans (HV9.out.block j hlt9 ?_)
                  exact hb.ne (by rw [← Hx2hp.out]; exact Hrep9.out.blk) (by decide)
                simpa using hown
              · have e1 : remAt x.log.toY x3.ob x2.ob.length = (((x3.ob.map PB.b)).filter x.log.toY).map Bk.at_ := by
                  unfold remAt; rw [H3ob.out, List.take_length]
                have e2 : x3.ob.map PB.b = (x.log.newO roots).map (mvB (x.log.majorF roots)) := by rw [H3ob.out]; exact Hx2o.out
                have e3 : x3.yb.map PB.b = (x.log.newY roots).map (mvB (x.log.majorF roots)) := by rw [← Hx3.out]; exact Hx2y.out
                have e4 : x3.O = x.O := by rw [← Hx3.out]; exact Hx2O.out
                show (⟨x3.Y, x3.O, x3.yb.map PB.b, x3.ob.map PB.b, remAt x.log.toY x3.ob x2.ob.length⟩ : LH) = _
                rw [e1, e2, e3, e4, H3Y.out]
                rfl
              · refine (Hkw.out.trans' HV9.out fun k _ e => .inl e).trans' HK3.out fun k hk2 e => ?_
                have := Hkw.out.size; have := Hr9.out; omega
              · intro k hk2
                have hr9 := Hr9.out
                have hs := Hkw.out.size
                by_cases e : k = r
                · exact .inr (by omega)
                · refine Hx2fp.out k ?_
                  have hk3 : x3.fp k := hk2
                  rw [← Hx3.out] at hk3
                  rcases hk3 with e' | e' | e' | e' | e' | e'
                  · exact .inl e'
                  · exact .inr (.inl e')
                  · exact .inr (.inr (.inl e'))
                  · exact .inr (.inr (.inr (.inl e')))
                  · injection e' with e'; injection e' with e'; omega
                  · exact .inr (.inr (.inr (.inr (.inr e'))))
              · intro k hk2
                have hk3 : k ∈ x3.all.map PB.arr := hk2
                rw [← Hx3.out] at hk3
                exact Hx2arr.out k hk3
theorem Major_any {w : World} {base : Nat} {x : PH} (h : HRep w base x) (hinv : LInv x.log) {v : Value} {roots : List Wd} (hr : RdW w v roots) (hd : roots ≠ [] → ∀ k, v.ownBlock = some k → ¬ x.fp k) (hl : roots.length ≤ 1048576) :
    Calls Try.prog 36 #[.pointer (some ⟨x.hp, 0, none⟩), v] w fun e w' => ∃ v', e = .returned (.tuple #[v', .int .i64 (x.log.major roots).2.2]) ∧ w'.ownsRow w.heap.size 33 6 v' (x.log.major roots).2.1.length (flatL (x.log.major roots).2.1) ∧ StepC w base x (x.log.major roots).1 w' := by
  cases hb : roots.any x.log.bad with
  | true =>
    refine (Major_bad h hr hl hb).mono ?_
    rintro e w' ⟨rfl, hx⟩
    have : x.log.major roots = (x.log, [], 1) := by unfold LH.major; rw [if_pos hb]
    rw [this]
    exact ⟨_, rfl, World.ownsRow_nil _ _ _ _, StepC.same h hx⟩
  | false => exact Major_good h hinv hr hd hl hb
end Go.Proofs.Ytikigppfnhilhaa
