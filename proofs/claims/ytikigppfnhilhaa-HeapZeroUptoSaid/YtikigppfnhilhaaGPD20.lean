/- The closures of Reach and Major. -/
import Derived.Test.YtikigppfnhilhaaGPD19
/- The closures of Reach and Major. -/
namespace Go.Proofs.Ytikigppfnhilhaa
open Go.RowKit Go.Instr
set_option linter.unusedVariables false
set_option linter.unusedSimpArgs false
attribute [local go_sem] Oper.semAt_some

theorem ReachF_true (v : Value) (w : World) : Calls Try.prog 46 #[v] w fun e w' => e = .returned (.bool true) ∧ w' = w := by
  go_enter Try.func46, Try.ntmps46
  go_wp2
  go_ret
  exact ⟨rfl, rfl⟩
theorem MajorF1_true (v : Value) (w : World) : Calls Try.prog 63 #[v] w fun e w' => e = .returned (.bool true) ∧ w' = w := by
  go_enter Try.func63, Try.ntmps63
  go_wp2
  go_ret
  exact ⟨rfl, rfl⟩

set_option maxRecDepth 100000 in
set_option maxHeartbeats 2000000 in
theorem MajorF2_any {w : World} {base : Nat} {x : PH} (h : HRep w base x) {bh : Nat} (hb : Blk w bh #[.pointer (some ⟨x.hp, 0, none⟩)] 25) {u : Wd} (hbad : x.bad u = false) :
    Calls Try.prog 65 #[u.val, .pointer (some ⟨bh, 0, none⟩)] w fun e w' => e = .returned (.bool (decide (refW u ≠ 0 ∧ refW u ≤ x.Y))) ∧ Ext w w' := by
  obtain ⟨w1, hw1⟩ : ∃ w1, (w.alloc (.cells u.cells.toArray 33)).drew = w1 := ⟨_, rfl⟩
  have hx1 : Ext w w1 := by rw [← hw1]; exact ((Ext.refl w).alloc _).drew
  have hbx : Blk w1 w.heap.size u.cells.toArray 33 := by rw [← hw1]; exact (Blk.new w _ _).drew
  have HS0 : ∀ V, Ext w1 V → Hid (Ext w V ∧ V.cell? ⟨bh, 0, none⟩ = some (.pointer (some ⟨x.hp, 0, none⟩)) ∧ V.cell? ⟨x.hp, 8, none⟩ = some x.av ∧ V.cell? ⟨w.heap.size, 0, none⟩ = some (.int .i64 u.tag) ∧ V.cell? ⟨w.heap.size, 1, none⟩ = some (.int .i64 u.a) ∧ V.cell? ⟨w.heap.size, 2, none⟩ = some (.int .i64 u.b) ∧
      V.cell? ⟨w.heap.size, 3, none⟩ = some (.string u.text) ∧ V.cell? ⟨w.heap.size, 4, none⟩ = some (.int .i64 u.man) ∧ V.cell? ⟨w.heap.size, 5, none⟩ = some (.int .i64 u.exp)) := fun V hV =>
    have hbV := hV.blk hbx id
    ⟨hx1.trans hV, ((hV.blk (hx1.blk hb id) id).cell 0).trans rfl, ((h.ext (hx1.trans hV)).cell 8).trans rfl, (hbV.cell 0).trans rfl, (hbV.cell 1).trans rfl, (hbV.cell 2).trans rfl, (hbV.cell 3).trans rfl, (hbV.cell 4).trans rfl, (hbV.cell 5).trans rfl⟩
  go_enter Try.func65, Try.ntmps65
  unfold Wd.val
  go_wp2
  refine region_S_plain (n := 3) (fun V => Ext w V ∧ V.cell? ⟨bh, 0, none⟩ = some (.pointer (some ⟨x.hp, 0, none⟩)) ∧ V.cell? ⟨x.hp, 8, none⟩ = some x.av ∧ V.cell? ⟨w.heap.size, 0, none⟩ = some (.int .i64 u.tag) ∧ V.cell? ⟨w.heap.size, 1, none⟩ = some (.int .i64 u.a) ∧ V.cell? ⟨w.heap.size, 2, none⟩ = some (.int .i64 u.b) ∧
      V.cell? ⟨w.heap.size, 3, none⟩ = some (.string u.text) ∧ V.cell? ⟨w.heap.size, 4, none⟩ = some (.int .i64 u.man) ∧ V.cell? ⟨w.heap.size, 5, none⟩ = some (.int .i64 u.exp)) 14 (by kernel_rfl) ?_
  have HS := HS0 w1 (Ext.refl w1)
  have HX := Lib.hid hx1
  rw [hw1]
  have hrf : ∀ W, Gives 41 #[u.val] W (.int .i64 (refW u)) := fun W => refers_any _ W
  have Hrf := Lib.hid hrf
  unfold Wd.val Wd.cells at Hrf
  clear hrf hbx hx1 hw1
  refine anyS_quiet (a2 := ?a0) 0 rfl rfl rfl (by kernel_rfl) (by kernel_rfl) (by kernel_rfl) (by kernel_rfl) (by kernel_rfl) (by kernel_rfl) (fun _ _ _ _ h => h) HS.out ?h0 ?k0
  case h0 => intro W hW K hK; obtain ⟨d0, d1, d8, d2, d3, d4, d5, d6, d7⟩ := hW; go_simp; exact hK
  refine anyS_only 1 rfl (by kernel_rfl) ?_
  gi_wp2_with fail
  refine (callsIn_WF (Hrf.out _)).mono ?_
  rintro e w2 ⟨rfl, hx⟩
  have HS := HS0 w2 hx
  have HX2 := Lib.hid (HX.out.trans hx)
  have HXX := Lib.hid hx
  clear hx HX
  gi_wp2
  refine And.intro (.inr HS.out) ?_
  refine anyS_quiet (a2 := ?ab_2) 2 rfl rfl rfl (by kernel_rfl) (by kernel_rfl) (by kernel_rfl) (by kernel_rfl) (by kernel_rfl) (by kernel_rfl) (fun _ _ _ _ h => h) HS.out ?hb_2 ?kb_2
  case hb_2 => intro W hW K hK; obtain ⟨d0, d1, d8, d2, d3, d4, d5, d6, d7⟩ := hW; go_simp; exact hK
  refine anyS_quiet (a2 := ?ac_3) 3 rfl rfl rfl (by kernel_rfl) (by kernel_rfl) (by kernel_rfl) (by kernel_rfl) (by kernel_rfl) (by kernel_rfl) (fun _ _ _ _ h => h) HS.out ?hc_3 ?kc_3
  case hc_3 => intro W hW K hK; obtain ⟨d0, d1, d8, d2, d3, d4, d5, d6, d7⟩ := hW; go_simp; exact hK
  by_cases hz : refW u = 0
  · have hres : decide (refW u ≠ 0 ∧ refW u ≤ x.Y) = false := by simp [hz]
    rw [hz]
    refine anyS_quiet (a2 := ?ad_4) 4 rfl rfl rfl (by kernel_rfl) (by kernel_rfl) (by kernel_rfl) (by kernel_rfl) (by kernel_rfl) (by kernel_rfl) (fun _ _ _ _ h => h) HS.out ?hd_4 ?kd_4
    case hd_4 => intro W hW K hK; obtain ⟨d0, d1, d8, d2, d3, d4, d5, d6, d7⟩ := hW; go_simp; exact hK
    refine anyS_quiet (a2 := ?ad_5) 5 rfl rfl rfl (by kernel_rfl) (by kernel_rfl) (by kernel_rfl) (by kernel_rfl) (by kernel_rfl) (by kernel_rfl) (fun _ _ _ _ h => h) HS.out ?hd_5 ?kd_5
    case hd_5 => intro W hW K hK; obtain ⟨d0, d1, d8, d2, d3, d4, d5, d6, d7⟩ := hW; go_simp; exact hK
    refine anyS_quiet (a2 := ?ad_6) 6 rfl rfl rfl (by kernel_rfl) (by kernel_rfl) (by kernel_rfl) (by kernel_rfl) (by kernel_rfl) (by kernel_rfl) (fun _ _ _ _ h => h) HS.out ?hd_6 ?kd_6
    case hd_6 => intro W hW K hK; obtain ⟨d0, d1, d8, d2, d3, d4, d5, d6, d7⟩ := hW; go_simp; exact hK
    refine anyS_quiet (a2 := ?ad_7) 7 rfl rfl rfl (by kernel_rfl) (by kernel_rfl) (by kernel_rfl) (by kernel_rfl) (by kernel_rfl) (by kernel_rfl) (fun _ _ _ _ h => h) HS.out ?hd_7 ?kd_7
    case hd_7 => intro W hW K hK; obtain ⟨d0, d1, d8, d2, d3, d4, d5, d6, d7⟩ := hW; go_simp; exact hK
    refine anyS_quiet (a2 := ?ad_8) 8 rfl rfl rfl (by kernel_rfl) (by kernel_rfl) (by kernel_rfl) (by kernel_rfl) (by kernel_rfl) (by kernel_rfl) (fun _ _ _ _ h => h) HS.out ?hd_8 ?kd_8
    case hd_8 => intro W hW K hK; obtain ⟨d0, d1, d8, d2, d3, d4, d5, d6, d7⟩ := hW; go_simp; exact hK
    refine anyS_quiet (a2 := ?ad_9) 9 rfl rfl rfl (by kernel_rfl) (by kernel_rfl) (by kernel_rfl) (by kernel_rfl) (by kernel_rfl) (by kernel_rfl) (fun _ _ _ _ h => h) HS.out ?hd_9 ?kd_9
    case hd_9 => intro W hW K hK; obtain ⟨d0, d1, d8, d2, d3, d4, d5, d6, d7⟩ := hW; go_simp; exact hK
    refine anyS_only 10 rfl (by kernel_rfl) ?_
    gi_wp2
    refine And.intro (.inr HS.out) ?_
    refine anyS_only 11 rfl (by kernel_rfl) ?_
    gi_wp2
    refine And.intro (.inr HS.out) ?_
    refine anyS_only 12 rfl (by kernel_rfl) ?_
    gi_wp2
    refine And.intro (.inr HS.out) ?_
    refine anyS_quiet (a2 := ?ae_13) 13 rfl rfl rfl (by kernel_rfl) (by kernel_rfl) (by kernel_rfl) (by kernel_rfl) (by kernel_rfl) (by kernel_rfl) (fun _ _ _ _ h => h) HS.out ?he_13 ?ke_13
    case he_13 => intro W hW K hK; obtain ⟨d0, d1, d8, d2, d3, d4, d5, d6, d7⟩ := hW; go_simp; exact hK
    refine anyS_only 14 rfl (by kernel_rfl) ?_
    gi_wp2
    refine And.intro (by kernel_rfl) ?_
    go_wp2
    go_ret
    exact ⟨by rw [hres]; rfl, HX2.out⟩
  · obtain ⟨z, hfz⟩ : ∃ z, x.find (refW u) = some z := by
      unfold PH.bad badF at hbad
      cases hf : x.find (refW u) with
      | some z => exact ⟨z, rfl⟩
      | none => rw [hf] at hbad; simp [hz] at hbad
    have hza := (PH.find_mem hfz).2
    have hzm := (PH.find_mem hfz).1
    have Hres : Hid (decide (refW u ≠ 0 ∧ refW u ≤ x.Y) = decide (z.b.at_ ≤ x.Y)) := Lib.hid (by rw [hza]; simp [hz])
    have Hfz := Lib.hid hfz
    clear hfz hza hbad
    generalize hq : refW u = q at Hrf hz Hfz ⊢
    clear hq
    refine anyS_quiet (a2 := ?af_4) 4 rfl rfl rfl (by kernel_rfl) (by kernel_rfl) (by kernel_rfl) (by kernel_rfl) (by kernel_rfl) (by kernel_rfl) (fun _ _ _ _ h => h) HS.out ?hf_4 ?kf_4
    case hf_4 => intro W hW K hK; obtain ⟨d0, d1, d8, d2, d3, d4, d5, d6, d7⟩ := hW; go_simp; exact hK
    refine anyS_quiet (a2 := ?af_5) 5 rfl rfl rfl (by kernel_rfl) (by kernel_rfl) (by kernel_rfl) (by kernel_rfl) (by kernel_rfl) (by kernel_rfl) (fun _ _ _ _ h => h) HS.out ?hf_5 ?kf_5
    case hf_5 => intro W hW K hK; obtain ⟨d0, d1, d8, d2, d3, d4, d5, d6, d7⟩ := hW; go_simp; exact hK
    refine anyS_quiet (a2 := ?af_6) 6 rfl rfl rfl (by kernel_rfl) (by kernel_rfl) (by kernel_rfl) (by kernel_rfl) (by kernel_rfl) (by kernel_rfl) (fun _ _ _ _ h => h) HS.out ?hf_6 ?kf_6
    case hf_6 => intro W hW K hK; obtain ⟨d0, d1, d8, d2, d3, d4, d5, d6, d7⟩ := hW; go_simp; exact hK
    refine anyS_quiet (a2 := ?af_7) 7 rfl rfl rfl (by kernel_rfl) (by kernel_rfl) (by kernel_rfl) (by kernel_rfl) (by kernel_rfl) (by kernel_rfl) (fun _ _ _ _ h => h) HS.out ?hf_7 ?kf_7
    case hf_7 => intro W hW K hK; obtain ⟨d0, d1, d8, d2, d3, d4, d5, d6, d7⟩ := hW; go_simp; exact hK
    refine anyS_quiet (a2 := ?af_8) 8 rfl rfl rfl (by kernel_rfl) (by kernel_rfl) (by kernel_rfl) (by kernel_rfl) (by kernel_rfl) (by kernel_rfl) (fun _ _ _ _ h => h) HS.out ?hf_8 ?kf_8
    case hf_8 => intro W hW K hK; obtain ⟨d0, d1, d8, d2, d3, d4, d5, d6, d7⟩ := hW; go_simp; exact hK
    refine anyS_quiet (a2 := ?af_9) 9 rfl rfl rfl (by kernel_rfl) (by kernel_rfl) (by kernel_rfl) (by kernel_rfl) (by kernel_rfl) (by kernel_rfl) (fun _ _ _ _ h => h) HS.out ?hf_9 ?kf_9
    case hf_9 => intro W hW K hK; obtain ⟨d0, d1, d8, d2, d3, d4, d5, d6, d7⟩ := hW; go_simp; exact hK
    refine anyS_only 10 rfl (by kernel_rfl) ?_
    gi_wp2_with fail
    refine (callsIn_WF (Hrf.out _)).mono ?_
    rintro e w3 ⟨rfl, hx⟩
    have HS := HS0 w3 (HXX.out.trans hx)
    have HX3 := Lib.hid (HX2.out.trans hx)
    clear hx HX2
    gi_wp2
    refine And.intro (.inr HS.out) ?_
    have hh3 := h.ext HX3.out
    have hlk := run_amap hh3 q
    rw [Hfz.out] at hlk
    unfold ptrO PB.ptr at hlk
    simp only [] at hlk
    have Hy := Lib.hid (isYoung_any hh3 (hh3.pbs z hzm))
    unfold PB.ptr at Hy
    clear hh3
    refine anyS_only 11 rfl (by kernel_rfl) ?_
    gi_wp2
    refine And.intro (.inr HS.out) ?_
    refine anyS_only 12 rfl (by kernel_rfl) ?_
    gi_wp2_with fail
    refine (callsIn_WF Hy.out).mono ?_
    rintro e w4 ⟨rfl, n4, hw4⟩
    have HX4 : Hid (Ext w w4) := Lib.hid (by rw [hw4]; exact HX3.out.drewN n4)
    have HS : Hid (Ext w w4 ∧ w4.cell? ⟨bh, 0, none⟩ = some (.pointer (some ⟨x.hp, 0, none⟩)) ∧ w4.cell? ⟨x.hp, 8, none⟩ = some x.av ∧ w4.cell? ⟨w.heap.size, 0, none⟩ = some (.int .i64 u.tag) ∧ w4.cell? ⟨w.heap.size, 1, none⟩ = some (.int .i64 u.a) ∧ w4.cell? ⟨w.heap.size, 2, none⟩ = some (.int .i64 u.b) ∧
      w4.cell? ⟨w.heap.size, 3, none⟩ = some (.string u.text) ∧ w4.cell? ⟨w.heap.size, 4, none⟩ = some (.int .i64 u.man) ∧ w4.cell? ⟨w.heap.size, 5, none⟩ = some (.int .i64 u.exp)) := by
      rw [hw4]; exact ⟨HX3.out.drewN n4, HS.out.2⟩
    clear hw4 hlk
    gi_wp2
    refine And.intro (.inr HS.out) ?_
    refine anyS_quiet (a2 := ?ag_13) 13 rfl rfl rfl (by kernel_rfl) (by kernel_rfl) (by kernel_rfl) (by kernel_rfl) (by kernel_rfl) (by kernel_rfl) (fun _ _ _ _ h => h) HS.out ?hg_13 ?kg_13
    case hg_13 => intro W hW K hK; obtain ⟨d0, d1, d8, d2, d3, d4, d5, d6, d7⟩ := hW; go_simp; exact hK
    refine anyS_only 14 rfl (by kernel_rfl) ?_
    gi_wp2
    refine And.intro (by kernel_rfl) ?_
    go_wp2
    go_ret
    have hq0 : (q != 0) = true := by simpa using hz
    refine ⟨?_, HX4.out⟩
    rw [Hres.out]
    show Ending.returned (.bool (q != 0 && decide (z.b.at_ ≤ x.Y))) = _
    rw [hq0, Bool.true_and]
end Go.Proofs.Ytikigppfnhilhaa
