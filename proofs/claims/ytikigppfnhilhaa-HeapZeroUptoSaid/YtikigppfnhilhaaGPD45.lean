/- Minor of the reference: the walk. -/
import Derived.Test.YtikigppfnhilhaaGPD44
/- Minor of the reference: the walk. -/
namespace Go.Proofs.Ytikigppfnhilhaa
open Go.RowKit Go.Instr
set_option linter.unusedVariables false
set_option linter.unusedSimpArgs false
attribute [local go_sem] Oper.semAt_some

theorem bused_filterR (p : Bk → Bool) (l : List Bk) : bused (l.filter p) ≤ bused l := by
  induction l with
  | nil => simp [bused]
  | cons b l ih =>
    rw [List.filter_cons, bused_cons]
    split
    · rw [bused_cons]; omega
    · omega
/-- What a collection of the reference leaves. -/
def RCollR (w : World) (base : Nat) (r : RH) (c : LH × List Wd × Int) (e : Ending) (w' : World) : Prop :=
  ∃ v', e = .returned (.tuple #[v', .int .i64 c.2.2]) ∧ RdW w' v' c.2.1 ∧ (∀ k, v'.ownBlock = some k → w.heap.size ≤ k) ∧ RStep w base r c.1 w'
set_option maxRecDepth 100000 in
set_option maxHeartbeats 16000000 in
theorem RMinor_any {w : World} {base : Nat} {r : RH} (h : RRep w base r) (hB : ∀ b ∈ r.log.all, ∀ u ∈ b.ws, r.log.bad u = false) {v : Value} {roots : List Wd} (hr : RdW w v roots) (hro : roots ≠ [] → ∀ k, v.ownBlock = some k → ¬ r.fp k) (hl : roots.length ≤ 1048576) (hok : LOk (r.log.minor roots).1) :
    Calls Try.prog 77 #[.pointer (some ⟨r.rp, 0, none⟩), v] w (RCollR w base r (r.log.minor roots)) := by
  have HV := Lib.hid (Rrights_any h hr (by omega))
  have Hr := Lib.hid hr; have H := Lib.hid h; have HBd := Lib.hid hB; have Hro := Lib.hid hro; have HOk := Lib.hid hok
  obtain ⟨ya, yc, hya⟩ : ∃ a c, r.ya = .slice a r.yb.length c := own_slice h.yrow
  obtain ⟨oa, oc, hoa⟩ : ∃ a c, r.oa = .slice a r.ob.length c := own_slice h.orow
  obtain ⟨ma, mc, hma⟩ : ∃ a c, r.ma = .slice a r.M.length c := own_slice h.mrow
  have Hya := Lib.hid hya; have Hoa := Lib.hid hoa; have Hma := Lib.hid hma
  generalize hM : RCollR w base r (r.log.minor roots) = M
  have HM := Lib.hid hM
  have hml : r.M.length ≤ 1000 := h.mlen
  clear hr hM h hB hro hok hya hoa hma
  go_enter Try.func77, Try.ntmps77
  go_wp2_with fail
  refine HV.out.mono ?_
  rintro e w1 ⟨rfl, hx1⟩
  have HX1 := Lib.hid hx1
  clear hx1 HV
  by_cases hb : roots.any r.log.bad = true
  · rw [hb]
    go_wp2_with fail
    rw [← HM.out]
    have hm : r.log.minor roots = (r.log, [], 1) := by unfold LH.minor; rw [if_pos hb]
    rw [hm]
    exact ⟨.slice none 0 0, rfl, ⟨none, 0, rfl, fun _ => rfl, fun ad had => by cases had⟩, fun k hk => by simp [Value.ownBlock] at hk, RStep.same H.out (Cpl.log r) HX1.out⟩
  have hb' : roots.any r.log.bad = false := by simpa using hb
  have Hb := Lib.hid hb
  have Hbf : Hid (∀ u ∈ roots, r.log.bad u = false) := Lib.hid fun u hu => by
    cases hc : r.log.bad u with
    | false => rfl
    | true => exact (hb (List.any_eq_true.2 ⟨u, hu, hc⟩)).elim
  have HC := Lib.hid (Rreach_any (H.out.ext HX1.out) HBd.out (yo := true) (World.ownsRow_nil _ _ _ _) (RQ.start List.Pairwise.nil (by simp) (by simp)) (Hr.out.ext HX1.out) (by omega) Hbf.out)
  rw [hb']
  clear hb hb'
  go_wp2_with fail
  refine HC.out.mono ?_
  rintro e w2 ⟨v', K1, rfl, hrow, hK, hx2⟩
  have HX2 := Lib.hid (HX1.out.trans hx2)
  have HK := Lib.hid hK; have HRow := Lib.hid hrow
  clear hK hrow hx2 HC HX1
  go_wp2_with fail
  go_loopw [6, 7] (fun kv i wr => ∃ (k : Nat) (K : List Int), k ≤ r.M.length ∧ i = .int .i64 k ∧ Hid (wr.ownsRow 0 3 1 kv K.length (K.map (Value.int .i64))) ∧ Hid (RGood r.log true (roots ++ remOf r.log (r.M.take k)) [] K) ∧ Hid (Ext w wr)) (fun kv i wr => r.M.length - (intOf i).toNat)
  case atStart => exact ⟨0, K1, Nat.zero_le _, rfl, HRow, by simpa [remOf] using HK, HX2⟩
  case round =>
  clear HRow HK HX2
  obtain ⟨k, K, hk, rfl, HRow, HK, HX⟩ := hrel
  obtain ⟨ka, kc, rfl⟩ := own_slice HRow.out
  have c4 : wr.cell? ⟨r.rp, 0 + 4, none⟩ = some (.slice ma r.M.length mc) := by rw [← Hma.out]; exact (H.out.ext HX.out).c4
  by_cases hlt : k < r.M.length
  · obtain ⟨z, hz⟩ : ∃ z, r.M[k]? = some z := ⟨_, List.getElem?_eq_getElem hlt⟩
    have hmr : wr.ownsRow base 3 1 (.slice ma r.M.length mc) r.M.length (r.M.map (Value.int .i64)) := by rw [← Hma.out]; exact (H.out.ext HX.out).mrow
    obtain ⟨g, c, e, d0⟩ := ownI_getR hmr hz
    injection e with e e2 e3; subst e; clear e2 e3
    obtain ⟨y, hy⟩ : ∃ y, r.find z = some y := by
      have h1 := H.out.msub z (List.mem_of_getElem? hz)
      rw [List.map_map] at h1
      obtain ⟨y, hy, e⟩ := List.mem_map.1 h1
      have h2 := H.out.ok.find (b := y.b) (by rw [RH.log_all]; exact List.mem_map_of_mem (List.mem_append_right _ hy))
      rw [show y.b.at_ = z from e, RH.find_log] at h2
      obtain ⟨y2, h3, _⟩ := Option.map_eq_some_iff.1 h2
      exact ⟨y2, h3⟩
    have Hz := Lib.hid hz; have Hy := Lib.hid hy
    have HBl := Lib.hid (RBlock_any (H.out.ext HX.out) z)
    clear hz hy hmr
    go_wp2_with fail
    refine HBl.out.mono ?_
    rintro e w4 ⟨rfl, hx4⟩
    rw [Hy.out]
    simp only [blkV, blkE, RB.sl]
    have HX4 := Lib.hid (HX.out.trans hx4)
    have HRow4 := Lib.hid (own_ext HRow.out hx4)
    obtain ⟨bt, hbt⟩ : ∃ bt, w4.heap.size = bt := ⟨_, rfl⟩
    clear hx4 HBl HX HRow d0 c4
    go_upto_region 8 with fail
    obtain ⟨W8, hW8⟩ : ∃ W8, w4.alloc (.cells #[.int .i64 y.b.at_, .int .i64 y.b.kind, .slice (some ⟨y.arr, 0, none⟩) y.b.ws.length y.b.ws.length] 49) = W8 := ⟨_, rfl⟩
    have hx8 : Ext w4 W8 := by rw [← hW8]; exact (Ext.refl w4).alloc _
    have HX8 : Hid (Ext w W8) := Lib.hid (HX4.out.trans hx8)
    have hb8 : Blk W8 bt #[.int .i64 y.b.at_, .int .i64 y.b.kind, .slice (some ⟨y.arr, 0, none⟩) y.b.ws.length y.b.ws.length] 49 := by rw [← hW8, ← hbt]; exact Blk.new w4 _ _
    have t2 : W8.cell? ⟨bt, 0 + 2, none⟩ = some (.slice (some ⟨y.arr, 0, none⟩) y.b.ws.length y.b.ws.length) := (hb8.cell 2).trans rfl
    have HRow8 := Lib.hid (own_ext HRow4.out hx8)
    have Hym : Hid (y ∈ r.all) := Lib.hid (RH.find_mem Hy.out).1
    have Hyb : Hid (y.b ∈ r.log.all) := Lib.hid (by rw [RH.log_all]; exact List.mem_map_of_mem Hym.out)
    have Hyl : Hid (y.b.ws.length ≤ 1000) := Lib.hid (H.out.len Hyb.out)
    have HCr := Lib.hid (Rreach_any (H.out.ext HX8.out) HBd.out (yo := true) HRow8.out (RQ.start (from_ := y.b.ws) HK.out.sorted HK.out.sub HK.out.closed) (rdW_of_blk ((H.out.ext HX8.out).wo y Hym.out) y.b.ws.length) (by have := Hyl.out; omega) (HBd.out y.b Hyb.out))
    rw [hW8]
    clear hx8 hW8 hb8 HX4 HRow4 hbt
    go_wp2_with fail
    refine HCr.out.mono ?_
    rintro e w9 ⟨v9, K9, rfl, hrow9, hK9, hx9⟩
    have HX9 := Lib.hid (HX8.out.trans hx9)
    have HRow9 := Lib.hid hrow9
    have HK9 : Hid (RGood r.log true (roots ++ remOf r.log (r.M.take (k + 1))) [] K9) := Lib.hid (by
      have h1 := HK.out.comp hK9
      rw [remOf_take Hz.out (b := y.b) (by rw [RH.find_log, Hy.out]; rfl), ← List.append_assoc]
      exact h1)
    clear hx9 hrow9 hK9 HCr t2
    go_wp2_with fail
    exact ⟨⟨k + 1, K9, by omega, by simp, HRow9, HK9, HX9⟩, by simp only [intOf]; omega⟩
  have hkn : k = r.M.length := by omega
  have HK2 : Hid (RGood r.log true (roots ++ r.log.remW) [] K) := Lib.hid (by
    have h1 := HK.out
    rw [hkn, List.take_length] at h1; exact h1)
  have Hlv := Lib.hid (liveY_eq H.out.ok HK2.out)
  have HKn : Hid (K.length ≤ 1000000) := Lib.hid (Nat.le_trans HK2.out.count (Nat.le_trans H.out.alllen (by omega)))
  have HKs := Lib.hid HK2.out.sorted
  obtain ⟨live, hlive⟩ : ∃ live, r.yb.filter (fun y => decide (y.b.at_ ∈ K)) = live := ⟨_, rfl⟩
  have Hlive : Hid (live.map RB.b = r.log.liveY roots) := Lib.hid (by
    rw [Hlv.out, ← hlive]
    show _ = (r.yb.map RB.b).filter _
    rw [List.filter_map]; rfl)
  have Hlsub : Hid (∀ y ∈ live, y ∈ r.yb) := Lib.hid fun y hy => (List.mem_filter.1 (by rw [hlive]; exact hy)).1
  have hll : live.length ≤ 1000 := by rw [← hlive]; have h1 := H.out.ylen; have h2 := List.length_filter_le (fun y => decide (y.b.at_ ∈ K)) r.yb; simp [RH.log] at h1; omega
  have Hll := Lib.hid hll
  have HKc := Lib.hid (Rkept_any (H.out.ext HX.out).yrow (by have h1 := H.out.ylen; simp [RH.log] at h1; omega) HRow.out HKs.out HKn.out)
  rw [hlive, Hya.out] at HKc
  have c2 : wr.cell? ⟨r.rp, 0 + 2, none⟩ = some (.slice ya r.yb.length yc) := by rw [← Hya.out]; exact (H.out.ext HX.out).c2
  clear hkn HK HKn HKs hlive Hlv hll hk
  go_wp2_with fail
  refine HKc.out.mono ?_
  rintro e w3 ⟨vl, rfl, hlr, hx3⟩
  have HX3 := Lib.hid (HX.out.trans hx3)
  have HLw : Hid (w.heap.size ≤ wr.heap.size) := Lib.hid HX.out.size
  obtain ⟨nl, hnl⟩ : ∃ nl, wr.heap.size = nl := ⟨_, rfl⟩
  rw [hnl] at hlr HLw
  have HL3 := Lib.hid hlr
  obtain ⟨la, lc, rfl⟩ := rowR_len hlr
  clear hlr hx3 HKc HRow HX hnl c2 c4
  go_upto_region 10 with fail
  have o0 : w3.cell? ⟨r.rp, 0 + 1, none⟩ = some (.int .i64 r.O) := (H.out.ext HX3.out).c1
  have c3 : w3.cell? ⟨r.rp, 0 + 3, none⟩ = some (.slice oa r.ob.length oc) := by rw [← Hoa.out]; exact (H.out.ext HX3.out).c3
  have Hwl : ∀ V, Ext w V → Hid (wosR V live) := fun V hV => Lib.hid fun y hy => (H.out.ext hV).wo y (List.mem_append_left _ (Hlsub.out y hy))
  have Hrl : Hid (RdB w3 (.slice la live.length lc) (live.map RB.b)) := Lib.hid (rdB_of_rowR HL3.out (Hwl _ HX3.out).out)
  have Hrob : Hid (RdB w3 (.slice oa r.ob.length oc) r.log.ob) := Lib.hid (by rw [← Hoa.out]; exact (H.out.ext HX3.out).rdo)
  have hl1 : (live.map RB.b).length ≤ 1000000 := by rw [List.length_map]; have := Hll.out; omega
  have hl2 : r.log.ob.length ≤ 1000000 := Nat.le_trans H.out.olen (by omega)
  have hub : bused (live.map RB.b) ≤ bused r.log.yb := by
    rw [Hlive.out]
    show bused (r.log.yb.filter _) ≤ _
    exact bused_filterR _ _
  have hu1 : bused (live.map RB.b) ≤ 1000000 := by
    have h1 := H.out.ok.uy; have h2 := H.out.Y1
    have : r.log.Y = r.Y := rfl
    omega
  have hu2 : bused r.log.ob ≤ 1000000 := by
    have h1 := H.out.ok.uo; have h2 := H.out.O1
    have : r.log.O = r.O := rfl
    omega
  have Hub := Lib.hid hub
  have hO0 : 0 ≤ r.O := H.out.ok.O0
  have hO1 : r.O ≤ 1000 := H.out.O1
  have hY0 : 0 ≤ r.Y := H.out.ok.Y0
  have hY1 : r.Y ≤ 1000 := H.out.Y1
  have hob0 : 0 ≤ bused r.log.ob := bused_nonneg _
  have hob1 : bused r.log.ob ≤ r.O := H.out.ok.uo
  have hlv0 : 0 ≤ bused (live.map RB.b) := bused_nonneg _
  have hlv1 : bused (live.map RB.b) ≤ r.Y := Int.le_trans hub H.out.ok.uy
  clear hub
  by_cases hfull : r.O - bused r.log.ob < bused (live.map RB.b)
  · have Hfull := Lib.hid hfull
    go_quiet ((go_at_call 73; first | ((with_reducible refine Calls.quiet_of_same (Rused_same (v := .slice la live.length lc) (bs := live.map RB.b) ?_ hl1 hu1)); exact Hrl.out.ext ((Ext.refl w3).drewN _)) | ((with_reducible refine Calls.quiet_of_same (Rused_same (v := .slice oa r.ob.length oc) (bs := r.log.ob) ?_ hl2 hu2)); exact Hrob.out.ext ((Ext.refl w3).drewN _))))
    go_wp2_with fail
    rw [← HM.out]
    have hm : r.log.minor roots = (r.log, [], 2) := by
      unfold LH.minor; rw [if_neg Hb.out, if_pos (by rw [← Hlive.out]; exact Hfull.out)]
    rw [hm]
    exact ⟨.slice none 0 0, rfl, ⟨none, 0, rfl, fun _ => rfl, fun ad had => by cases had⟩, fun k hk => by simp [Value.ownBlock] at hk, RStep.same H.out (Cpl.log r) (HX3.out.drewN _)⟩
  have Hfull := Lib.hid hfull
  have hfull2 : bused (live.map RB.b) ≤ r.O - bused r.log.ob := by omega
  clear hfull
  go_quiet ((go_at_call 73; first | ((with_reducible refine Calls.quiet_of_same (Rused_same (v := .slice la live.length lc) (bs := live.map RB.b) ?_ hl1 hu1)); exact Hrl.out.ext ((Ext.refl w3).drewN _)) | ((with_reducible refine Calls.quiet_of_same (Rused_same (v := .slice oa r.ob.length oc) (bs := r.log.ob) ?_ hl2 hu2)); exact Hrob.out.ext ((Ext.refl w3).drewN _))))
  go_upto_region 13 with fail
  obtain ⟨W4, hW4⟩ : ∃ W4, w3.drewN nq = W4 := ⟨_, rfl⟩
  have hx4 : Ext w3 W4 := by rw [← hW4]; exact (Ext.refl w3).drewN _
  rw [hW4]
  have HX4 := Lib.hid (HX3.out.trans hx4)
  have HL4 := Lib.hid (rowR_ext HL3.out hx4)
  have Hrob4 := Lib.hid (Hrob.out.ext hx4)
  clear hx4 hW4 HX3 HL3 Hrob Hrl o0 c3
  have y0 : W4.cell? ⟨r.rp, 0, none⟩ = some (.int .i64 r.Y) := (H.out.ext HX4.out).c0
  have c3 : W4.cell? ⟨r.rp, 0 + 3, none⟩ = some (.slice oa r.ob.length oc) := by rw [← Hoa.out]; exact (H.out.ext HX4.out).c3
  go_quiet ((go_at_call 73; ((with_reducible refine Calls.quiet_of_same (Rused_same (v := .slice oa r.ob.length oc) (bs := r.log.ob) ?_ hl2 hu2)); exact Hrob4.out.ext ((Ext.refl W4).drewN _))))
  go_upto_region 14 with fail
  obtain ⟨W0, hW0⟩ : ∃ W0, W4.drewN nq = W0 := ⟨_, rfl⟩
  have hx0 : Ext W4 W0 := by rw [← hW0]; exact (Ext.refl W4).drewN _
  rw [hW0]
  have HX0 := Lib.hid (HX4.out.trans hx0)
  have HL0 := Lib.hid (rowR_ext HL4.out hx0)
  clear hx0 hW0 HX4 HL4 Hrob4 y0 c3
  have c3 : W0.cell? ⟨r.rp, 0 + 3, none⟩ = some (.slice oa r.ob.length oc) := by rw [← Hoa.out]; exact (H.out.ext HX0.out).c3
  obtain ⟨s, hs⟩ : ∃ s, r.Y + 1 + bused r.log.ob = s := ⟨_, rfl⟩
  have Hs := Lib.hid hs
  try rw [hs]
  clear hs
  go_wp2_with fail
  obtain ⟨n0, hn0⟩ : ∃ n0, W0.heap.size = n0 := ⟨_, rfl⟩
  have Hn0 := Lib.hid hn0
  have Hwn : Hid (w.heap.size ≤ n0) := Lib.hid (by rw [← hn0]; exact HX0.out.size)
  have Hbs : Hid (base ≤ w.heap.size) := Lib.hid H.out.base_le
  obtain ⟨L, hL⟩ : ∃ L, live.map RB.b = L := ⟨_, rfl⟩
  have HLm := Lib.hid hL
  have HLl : Hid (L.length = live.length) := Lib.hid (by rw [← hL]; simp)
  have Hlb : Hid (∀ k, Value.ownBlock (.slice la live.length lc) = some k → w.heap.size ≤ k ∧ k < n0) := Lib.hid fun k hk => by
    have h1 := HL0.out.lt k hk
    have h2 := HLw.out
    rw [hn0] at h1; omega
  have Hob0 : Hid (∀ k, r.oa.ownBlock = some k → k < w.heap.size) := Lib.hid fun k hk => (H.out.orow.lt k hk).2
  rw [hL] at hlv0 hlv1 hfull2
  rw [hL] at Hlive Hub Hfull
  have HLc : ∀ (V : World), Keeps (fun k => r.oa.ownBlock = some k) W0 V → Hid (rowR V nl (.slice la live.length lc) live ∧ wosR V live) := fun V hV => Lib.hid ⟨ownsRow_keeps HL0.out fun k hk => hV.block k (by rw [hn0]; exact (Hlb.out k hk).2) (fun e => by have h1 := Hob0.out k e; have h2 := (Hlb.out k hk).1; omega), fun y hy => by
    have h1 := (Hwl W0 HX0.out).out y hy
    refine hV.blk h1 fun e => ?_
    obtain ⟨cur, hc⟩ := ownsRow_type (H.out.ext HX0.out).orow e
    exact hc.ne h1 (by decide) rfl⟩
  have hls : live.length ≤ 1000 := Hll.out
  clear hn0 hL c3
  go_loopw [11, 12, 13, 14, 15] (fun fv tv nv ov iv wr => ∃ (i : Nat) (fa ta qa : Option Addr) (fc tc qc : Nat), i ≤ live.length ∧ iv = .int .i64 i ∧ nv = .int .i64 (s + bused (L.take i)) ∧ fv = .slice fa i fc ∧ tv = .slice ta i tc ∧ ov = .slice qa (r.ob.length + i) qc ∧ Hid (wr.ownsRow n0 3 1 (.slice fa i fc) ((L.take i).map Bk.at_).length (((L.take i).map Bk.at_).map (Value.int .i64))) ∧ Hid (wr.ownsRow n0 3 1 (.slice ta i tc) ((shift s (L.take i)).map Bk.at_).length (((shift s (L.take i)).map Bk.at_).map (Value.int .i64))) ∧ Hid (rowR wr base (.slice qa (r.ob.length + i) qc) (r.ob ++ shiftR s (live.take i))) ∧ Hid (∀ k, Value.ownBlock (.slice qa (r.ob.length + i) qc) = some k → r.oa.ownBlock = some k ∨ n0 ≤ k) ∧ Hid (∀ k, Value.ownBlock (.slice fa i fc) = some k → Value.ownBlock (.slice ta i tc) ≠ some k) ∧ Hid (Keeps (fun k => r.oa.ownBlock = some k) W0 wr)) (fun fv tv nv ov iv wr => live.length - (intOf iv).toNat)
  case atStart =>
    refine ⟨0, none, none, oa, 0, 0, oc, Nat.zero_le _, rfl, by simp [bused], rfl, rfl, by simp, Lib.hid (World.ownsRow_nil _ _ _ _), Lib.hid (World.ownsRow_nil _ _ _ _), Lib.hid ?_, Lib.hid fun k hk => .inl (by rw [Hoa.out]; simpa using hk), Lib.hid fun k hk => by simp [Value.ownBlock] at hk, Lib.hid (Keeps.refl _ _)⟩
    have h1 := (H.out.ext HX0.out).orow
    rw [Hoa.out] at h1
    simpa [shiftR] using h1
  case round =>
  obtain ⟨i, fa, ta, qa, fc, tc, qc, hi, rfl, rfl, rfl, rfl, rfl, HFr, HTo, HOl, HOb, HNe, HKp⟩ := hrel
  by_cases hlt : i < live.length
  · obtain ⟨y, hy⟩ : ∃ y, live[i]? = some y := ⟨_, List.getElem?_eq_getElem hlt⟩
    have Hy := Lib.hid hy
    have HyL : Hid (L[i]? = some y.b) := Lib.hid (by rw [← HLm.out, List.getElem?_map, hy]; rfl)
    obtain ⟨g, c, e, -⟩ := rowR_at (HLc _ HKp.out).out.1 hy
    injection e with e e2 e3; subst e; clear e2 e3
    have HS0 : ∀ V, Keeps (fun k => r.oa.ownBlock = some k) W0 V → Hid (V.cell? ⟨g, i * 3, none⟩ = some (.int .i64 y.b.at_) ∧ V.cell? ⟨g, i * 3 + 1, none⟩ = some (.int .i64 y.b.kind) ∧ V.cell? ⟨g, i * 3 + 2, none⟩ = some (.slice (some ⟨y.arr, 0, none⟩) y.b.ws.length y.b.ws.length)) := fun V hV => by
      obtain ⟨g2, c2, e, h0, h1, h2⟩ := rowR_at (HLc V hV).out.1 hy
      injection e with e _ _; injection e with e; injection e with e _ _; subst e
      exact Lib.hid ⟨h0, h1, h2⟩
    have Hyl : Hid (y.b.ws.length ≤ 1000) := Lib.hid (H.out.len (by rw [RH.log_all]; exact List.mem_map_of_mem (List.mem_append_left _ (Hlsub.out y (List.mem_of_getElem? hy)))))
    clear hy
    obtain ⟨a0, a1, a2⟩ := (HS0 _ HKp.out).out
    go_wp2_with (at_builtin; refine (fun h => h trivial : (True → _) → _) ?_)
    intro _
    have HXa : Hid (Keeps (fun k => r.oa.ownBlock = some k) W0 (wr.alloc (.cells #[.int .i64 y.b.at_] 3))) := Lib.hid (HKp.out.alloc _)
    have HFa := Lib.hid (own_ext HFr.out ((Ext.refl wr).alloc (.cells #[.int .i64 y.b.at_] 3)))
    refine wpList_append_I rfl _ _ rfl n0 (.slice fa i fc) ((L.take i).map Bk.at_) rfl HFa.out wr.heap.size y.b.at_ rfl ((Blk.new wr _ _).cell 0) (by rw [List.length_map, List.length_take]; omega) (by have h1 := HXa.out.size; rw [Hn0.out] at h1; exact h1) ?_
    intro v1 w1 h1 hg1 hf1
    have e1 : (L.take i).map Bk.at_ ++ [y.b.at_] = (L.take (i + 1)).map Bk.at_ := by rw [List.take_add_one, HyL.out]; simp
    have hlen1 : ((L.take (i + 1)).map Bk.at_).length = i + 1 := by rw [List.length_map, List.length_take]; have := HLl.out; omega
    rw [e1] at h1
    obtain ⟨f1, g1, rfl⟩ := own_slice h1
    rw [hlen1] at h1 hf1 ⊢
    have Hlen1 := Lib.hid hlen1
    have HF1 : Hid (w1.ownsRow n0 3 1 (.slice f1 (i + 1) g1) (i + 1) (((L.take (i + 1)).map Bk.at_).map (Value.int .i64))) := Lib.hid h1
    have hk1 : Keeps (fun k => Value.ownBlock (.slice fa i fc) = some k) wr w1 := ((Keeps.refl _ wr).alloc _).grown hg1 fun k e => .inl e
    have HT1 := Lib.hid (ownsRow_keeps HTo.out fun k hk => hk1.block k (HTo.out.lt k hk).2 fun e => HNe.out k e hk)
    have HO1 : Hid (rowR w1 base (.slice qa (r.ob.length + i) qc) (r.ob ++ shiftR s (live.take i))) := Lib.hid (ownsRow_keeps HOl.out fun k hk => hk1.block k (HOl.out.lt k hk).2 fun e => by
      obtain ⟨c1, h1⟩ := ownsRow_type HOl.out hk
      obtain ⟨c2, h2⟩ := ownsRow_type HFr.out e
      exact h1.ne h2 (by decide) rfl)
    have HK1 : Hid (Keeps (fun k => r.oa.ownBlock = some k) W0 w1) := Lib.hid (HKp.out.trans' hk1 fun k hk e => by have h1 := (HFr.out.lt k e).1; have h2 := Hn0.out; omega)
    have HN1 : Hid (∀ k, Value.ownBlock (.slice f1 (i + 1) g1) = some k → Value.ownBlock (.slice ta i tc) ≠ some k) := Lib.hid fun k hk e => by
      rcases hf1 k hk with h | h
      · exact HNe.out k h e
      · have h2 := (HTo.out.lt k e).2
        simp at h; omega
    clear h1 hg1 hf1 hk1 e1 hlen1 HXa HFa HFr HTo HOl HKp HNe a0 a1 a2
    go_wp2_with (at_builtin; refine (fun h => h trivial : (True → _) → _) ?_)
    intro _
    have HXa : Hid (Keeps (fun k => r.oa.ownBlock = some k) W0 (w1.alloc (.cells #[.int .i64 (s + bused (L.take i))] 3))) := Lib.hid (HK1.out.alloc _)
    have HTa := Lib.hid (own_ext HT1.out ((Ext.refl w1).alloc (.cells #[.int .i64 (s + bused (L.take i))] 3)))
    refine wpList_append_I rfl _ _ rfl n0 (.slice ta i tc) ((shift s (L.take i)).map Bk.at_) rfl HTa.out w1.heap.size (s + bused (L.take i)) rfl ((Blk.new w1 _ _).cell 0) (by rw [List.length_map, shift_length, List.length_take]; omega) (by have h1 := HXa.out.size; rw [Hn0.out] at h1; exact h1) ?_
    intro v2 w2b h1 hg1 hf1
    have e1 : (shift s (L.take i)).map Bk.at_ ++ [s + bused (L.take i)] = (shift s (L.take (i + 1))).map Bk.at_ := (shift_take s L HyL.out).symm
    have hlen1 : ((shift s (L.take (i + 1))).map Bk.at_).length = i + 1 := by rw [List.length_map, shift_length, ← List.length_map (f := Bk.at_)]; exact Hlen1.out
    rw [e1] at h1
    obtain ⟨f2, g2, rfl⟩ := own_slice h1
    rw [hlen1] at h1 hf1 ⊢
    have Hlen2 := Lib.hid hlen1
    have HT2 : Hid (w2b.ownsRow n0 3 1 (.slice f2 (i + 1) g2) (i + 1) (((shift s (L.take (i + 1))).map Bk.at_).map (Value.int .i64))) := Lib.hid h1
    have hk1 : Keeps (fun k => Value.ownBlock (.slice ta i tc) = some k) w1 w2b := ((Keeps.refl _ w1).alloc _).grown hg1 fun k e => .inl e
    have HF2 := Lib.hid (ownsRow_keeps HF1.out fun k hk => hk1.block k (HF1.out.lt k hk).2 fun e => HN1.out k hk e)
    have HO2 : Hid (rowR w2b base (.slice qa (r.ob.length + i) qc) (r.ob ++ shiftR s (live.take i))) := Lib.hid (ownsRow_keeps HO1.out fun k hk => hk1.block k (HO1.out.lt k hk).2 fun e => by
      obtain ⟨c1, h1⟩ := ownsRow_type HO1.out hk
      obtain ⟨c2, h2⟩ := ownsRow_type HT1.out e
      exact h1.ne h2 (by decide) rfl)
    have HK2 : Hid (Keeps (fun k => r.oa.ownBlock = some k) W0 w2b) := Lib.hid (HK1.out.trans' hk1 fun k hk e => by have h1 := (HT1.out.lt k e).1; have h2 := Hn0.out; omega)
    have HN2 : Hid (∀ k, Value.ownBlock (.slice f1 (i + 1) g1) = some k → Value.ownBlock (.slice f2 (i + 1) g2) ≠ some k) := Lib.hid fun k hk e => by
      rcases hf1 k e with h | h
      · exact HN1.out k hk h
      · have h2 := (HF1.out.lt k hk).2
        simp at h; omega
    clear h1 hg1 hf1 hk1 e1 hlen1 HXa HTa HF1 HT1 HO1 HK1 HN1
    go_upto_region 20 with fail
    have HS := HS0 _ HK2.out.drew
    refine region_S_plain (n := 3) (fun V => V.cell? ⟨g, i * 3, none⟩ = some (.int .i64 y.b.at_) ∧ V.cell? ⟨g, i * 3 + 1, none⟩ = some (.int .i64 y.b.kind) ∧ V.cell? ⟨g, i * 3 + 2, none⟩ = some (.slice (some ⟨y.arr, 0, none⟩) y.b.ws.length y.b.ws.length)) 16 (by kernel_rfl) ?_
    have HF3 : Hid (w2b.drew.ownsRow n0 3 1 (.slice f1 (i + 1) g1) (i + 1) (((L.take (i + 1)).map Bk.at_).map (Value.int .i64))) := Lib.hid (own_ext HF2.out (Ext.refl w2b).drew)
    have HT3 : Hid (w2b.drew.ownsRow n0 3 1 (.slice f2 (i + 1) g2) (i + 1) (((shift s (L.take (i + 1))).map Bk.at_).map (Value.int .i64))) := Lib.hid (own_ext HT2.out (Ext.refl w2b).drew)
    have HO3 : Hid (rowR w2b.drew base (.slice qa (r.ob.length + i) qc) (r.ob ++ shiftR s (live.take i))) := Lib.hid (rowR_ext HO2.out (Ext.refl w2b).drew)
    have HK3 : Hid (Keeps (fun k => r.oa.ownBlock = some k) W0 w2b.drew) := Lib.hid HK2.out.drew
    clear HF2 HT2 HO2 HK2
    generalize w2b.drew = W3 at HF3 HT3 HO3 HK3 HS ⊢
    refine anyS_quiet (a2 := ?a0) 0 rfl rfl rfl (by kernel_rfl) (by kernel_rfl) (by kernel_rfl) (by kernel_rfl) (by kernel_rfl) (by kernel_rfl) (fun _ _ _ _ h => h) HS.out ?h0 ?k0
    case h0 => intro W hW K hK; obtain ⟨d0, d1, d2⟩ := hW; go_simp; exact hK
    refine anyS_quiet (a2 := ?a1) 1 rfl rfl rfl (by kernel_rfl) (by kernel_rfl) (by kernel_rfl) (by kernel_rfl) (by kernel_rfl) (by kernel_rfl) (fun _ _ _ _ h => h) HS.out ?h1 ?k1
    case h1 => intro W hW K hK; obtain ⟨d0, d1, d2⟩ := hW; go_simp; exact hK
    refine anyS_quiet (a2 := ?a2) 2 rfl rfl rfl (by kernel_rfl) (by kernel_rfl) (by kernel_rfl) (by kernel_rfl) (by kernel_rfl) (by kernel_rfl) (fun _ _ _ _ h => h) HS.out ?h2 ?k2
    case h2 => intro W hW K hK; obtain ⟨d0, d1, d2⟩ := hW; go_simp; exact hK
    refine anyS_quiet (a2 := ?a3) 3 rfl rfl rfl (by kernel_rfl) (by kernel_rfl) (by kernel_rfl) (by kernel_rfl) (by kernel_rfl) (by kernel_rfl) (fun _ _ _ _ h => h) HS.out ?h3 ?k3
    case h3 => intro W hW K hK; obtain ⟨d0, d1, d2⟩ := hW; go_simp; exact hK
    refine anyS_quiet (a2 := ?a4) 4 rfl rfl rfl (by kernel_rfl) (by kernel_rfl) (by kernel_rfl) (by kernel_rfl) (by kernel_rfl) (by kernel_rfl) (fun _ _ _ _ h => h) HS.out ?h4 ?k4
    case h4 => intro W hW K hK; obtain ⟨d0, d1, d2⟩ := hW; go_simp; exact hK
    refine anyS_quiet (a2 := ?a5) 5 rfl rfl rfl (by kernel_rfl) (by kernel_rfl) (by kernel_rfl) (by kernel_rfl) (by kernel_rfl) (by kernel_rfl) (fun _ _ _ _ h => h) HS.out ?h5 ?k5
    case h5 => intro W hW K hK; obtain ⟨d0, d1, d2⟩ := hW; go_simp; exact hK
    refine anyS_quiet (a2 := ?a6) 6 rfl rfl rfl (by kernel_rfl) (by kernel_rfl) (by kernel_rfl) (by kernel_rfl) (by kernel_rfl) (by kernel_rfl) (fun _ _ _ _ h => h) HS.out ?h6 ?k6
    case h6 => intro W hW K hK; obtain ⟨d0, d1, d2⟩ := hW; go_simp; exact hK
    refine anyS_quiet (a2 := ?a7) 7 rfl rfl rfl (by kernel_rfl) (by kernel_rfl) (by kernel_rfl) (by kernel_rfl) (by kernel_rfl) (by kernel_rfl) (fun _ _ _ _ h => h) HS.out ?h7 ?k7
    case h7 => intro W hW K hK; obtain ⟨d0, d1, d2⟩ := hW; go_simp; exact hK
    refine anyS_quiet (a2 := ?a8) 8 rfl rfl rfl (by kernel_rfl) (by kernel_rfl) (by kernel_rfl) (by kernel_rfl) (by kernel_rfl) (by kernel_rfl) (fun _ _ _ _ h => h) HS.out ?h8 ?k8
    case h8 => intro W hW K hK; obtain ⟨d0, d1, d2⟩ := hW; go_simp; exact hK
    refine anyS_quiet (a2 := ?a9) 9 rfl rfl rfl (by kernel_rfl) (by kernel_rfl) (by kernel_rfl) (by kernel_rfl) (by kernel_rfl) (by kernel_rfl) (fun _ _ _ _ h => h) HS.out ?h9 ?k9
    case h9 => intro W hW K hK; obtain ⟨d0, d1, d2⟩ := hW; go_simp; exact hK
    refine anyS_quiet (a2 := ?a10) 10 rfl rfl rfl (by kernel_rfl) (by kernel_rfl) (by kernel_rfl) (by kernel_rfl) (by kernel_rfl) (by kernel_rfl) (fun _ _ _ _ h => h) HS.out ?h10 ?k10
    case h10 => intro W hW K hK; obtain ⟨d0, d1, d2⟩ := hW; go_simp; exact hK
    refine anyS_quiet (a2 := ?a11) 11 rfl rfl rfl (by kernel_rfl) (by kernel_rfl) (by kernel_rfl) (by kernel_rfl) (by kernel_rfl) (by kernel_rfl) (fun _ _ _ _ h => h) HS.out ?h11 ?k11
    case h11 => intro W hW K hK; obtain ⟨d0, d1, d2⟩ := hW; go_simp; exact hK
    refine anyS_quiet (a2 := ?a12) 12 rfl rfl rfl (by kernel_rfl) (by kernel_rfl) (by kernel_rfl) (by kernel_rfl) (by kernel_rfl) (by kernel_rfl) (fun _ _ _ _ h => h) HS.out ?h12 ?k12
    case h12 => intro W hW K hK; obtain ⟨d0, d1, d2⟩ := hW; go_simp; exact hK
    refine anyS_only 13 rfl (by kernel_rfl) ?_
    gi_wp2
    refine And.intro (by first | exact .inr ⟨cell_allocO HS.out.1 _, cell_allocO HS.out.2.1 _, cell_allocO HS.out.2.2 _⟩ | exact ⟨cell_allocO HS.out.1 _, cell_allocO HS.out.2.1 _, cell_allocO HS.out.2.2 _⟩) ?_
    refine anyS_only 14 rfl (by kernel_rfl) ?_
    obtain ⟨i0, hi0, hz0, hz1, hz2⟩ := info_parts info_Block
    have Hol : Hid ((r.ob ++ shiftR s (live.take i)).length = r.ob.length + i) := Lib.hid (by rw [List.length_append, shiftR_length, List.length_take]; omega)
    have Hobl : Hid (r.ob.length ≤ 1000) := Lib.hid (by have h1 := H.out.olen; simpa [RH.log] using h1)
    have Hrow3 : Hid (rowR (W3.alloc (.cells #[.int .i64 (s + bused (L.take i)), .int .i64 y.b.kind, .slice (some ⟨y.arr, 0, none⟩) y.b.ws.length y.b.ws.length] 49)) base (.slice qa (r.ob.length + i) qc) (r.ob ++ shiftR s (live.take i))) := Lib.hid (rowR_ext HO3.out ((Ext.refl W3).alloc _))
    have Hsz : Hid (n0 ≤ W3.heap.size) := Lib.hid (by have h1 := HK3.out.size; rw [Hn0.out] at h1; exact h1)
    refine wpListIn_append_fresh rfl _ _ 28 rfl base 49 i0 _ 3 40 Try.underlying28 hi0 hz0 hz1 hz2 rfl (by decide) (.slice qa (r.ob.length + i) qc) (r.ob ++ shiftR s (live.take i)).length _ rfl Hrow3.out ⟨W3.heap.size, 0, none⟩ 1 1 [Value.int .i64 (s + bused (L.take i)), Value.int .i64 y.b.kind, Value.slice (some ⟨y.arr, 0, none⟩) y.b.ws.length y.b.ws.length] rfl rfl ?c1 ?c2 ?c3 ?c4 ?c5 ?_
    case c1 => exact cells_new W3 _ 49
    case c2 => simp [Value.oneCell']
    case c3 => have := Hol.out; have := Hobl.out; unfold maxLen; omega
    case c4 => have := Hol.out; have := Hobl.out; omega
    case c5 => have h1 := Hsz.out; have h2 := Hwn.out; have h3 := Hbs.out; simp; omega
    intro v' W4 hown hgrow hnil hfresh
    rw [Hol.out] at hown
    have Hown : Hid (rowR W4 base v' (r.ob ++ shiftR s (live.take (i + 1)))) := Lib.hid (by
      have e0 : r.ob ++ shiftR s (live.take (i + 1)) = (r.ob ++ shiftR s (live.take i)) ++ [{ y with b := { y.b with at_ := s + bused (L.take i) } }] := by
        rw [List.take_add_one, Hy.out, List.append_assoc]
        congr 1
        show shiftR s (live.take i ++ [y]) = _
        rw [shiftR_append, shiftR_one, List.map_take, HLm.out]
      unfold rowR
      rw [e0, bksApp, List.length_append, Hol.out]
      have e1 : bksCells ([({ y with b := { y.b with at_ := s + bused (L.take i) } } : RB)].map RB.b) ([({ y with b := { y.b with at_ := s + bused (L.take i) } } : RB)].map RB.sl) = [Value.int .i64 (s + bused (L.take i)), Value.int .i64 y.b.kind, Value.slice (some ⟨y.arr, 0, none⟩) y.b.ws.length y.b.ws.length] := by simp [bksCells, bkCells, RB.sl]
      rw [e1]; exact hown)
    obtain ⟨va, vc, rfl⟩ := own_slice hown
    have hk4 : Keeps (fun j => Value.ownBlock (.slice qa (r.ob.length + i) qc) = some j) W3 W4 := ((Keeps.refl _ W3).alloc _).grown hgrow fun j e => .inl e
    have HF4 := Lib.hid (ownsRow_keeps HF3.out fun k hk => hk4.block k (HF3.out.lt k hk).2 fun e => by
      obtain ⟨c1, h1⟩ := ownsRow_type HF3.out hk
      obtain ⟨c2, h2⟩ := ownsRow_type HO3.out e
      exact h1.ne h2 (by decide) rfl)
    have HT4 := Lib.hid (ownsRow_keeps HT3.out fun k hk => hk4.block k (HT3.out.lt k hk).2 fun e => by
      obtain ⟨c1, h1⟩ := ownsRow_type HT3.out hk
      obtain ⟨c2, h2⟩ := ownsRow_type HO3.out e
      exact h1.ne h2 (by decide) rfl)
    have HK4 : Hid (Keeps (fun k => r.oa.ownBlock = some k) W0 W4) := Lib.hid (HK3.out.trans' hk4 fun k hk e => by
      rcases HOb.out k e with h | h
      · exact h
      · have h2 := Hn0.out; omega)
    have HOb4 : Hid (∀ k, Value.ownBlock (.slice va (r.ob.length + (i + 1)) vc) = some k → r.oa.ownBlock = some k ∨ n0 ≤ k) := Lib.hid fun k hk => by
      rcases hfresh k (by exact hk) with h | h
      · exact HOb.out k h
      · right; have := Hsz.out; simp at h; omega
    have HS4 := HS0 _ HK4.out
    have Hown2 : Hid (rowR W4 base (.slice va (r.ob.length + (i + 1)) vc) (r.ob ++ shiftR s (live.take (i + 1)))) := Hown
    clear hown hgrow hnil hfresh hk4 HF3 HT3 HO3 HK3 HS HOb Hrow3 Hown
    gi_wp2
    refine And.intro (by first | exact .inr HS4.out | exact HS4.out) ?_
    refine anyS_quiet (a2 := ?ab_15) 15 rfl rfl rfl (by kernel_rfl) (by kernel_rfl) (by kernel_rfl) (by kernel_rfl) (by kernel_rfl) (by kernel_rfl) (fun _ _ _ _ h => h) HS4.out ?hb_15 ?kb_15
    case hb_15 => intro W hW K hK; obtain ⟨d0, d1, d2⟩ := hW; go_simp; exact hK
    refine anyS_done (by kernel_rfl) ?_ _
    obtain ⟨a0, a1, a2⟩ := HS4.out
    have hs0 : 0 ≤ s := by rw [← Hs.out]; omega
    have hs1 : s ≤ 2001 := by rw [← Hs.out]; omega
    have hbt0 : 0 ≤ bused (L.take i) := bused_nonneg _
    have hbt1 : bused (L.take i) ≤ 1000 := Int.le_trans (bused_take_le i L) (by omega)
    have hyl : y.b.ws.length ≤ 1000 := Hyl.out
    go_wp2_with fail
    refine ⟨⟨i + 1, f1, f2, va, g1, g2, vc, by omega, by simp, ?_, rfl, rfl, by first | rfl | simp [Nat.add_assoc], by rw [Hlen1.out]; exact HF4, by rw [Hlen2.out]; exact HT4, Hown2, HOb4, HN2, HK4⟩, by simp only [intOf]; omega⟩
    rw [bused_take HyL.out, Int.add_assoc]
  · have hin : i = live.length := by omega
    subst hin
    have eL : L.take live.length = L := by rw [← HLl.out, List.take_length]
    rw [eL] at HFr HTo
    rw [List.take_length] at HOl
    have hfl : (L.map Bk.at_).length = live.length := by rw [List.length_map]; exact HLl.out
    have htl : ((shift s L).map Bk.at_).length = live.length := by rw [List.length_map, shift_length]; exact HLl.out
    have hobl : r.ob.length ≤ 1000 := by have h1 := H.out.olen; simpa [RH.log] using h1
    have hwo : wosR wr (r.ob ++ shiftR s live) := fun y hy => by
      rcases List.mem_append.1 hy with hy | hy
      · have h1 := (H.out.ext HX0.out).wO y hy
        refine HKp.out.blk h1 fun e => ?_
        obtain ⟨cur, hc⟩ := ownsRow_type (H.out.ext HX0.out).orow e
        exact hc.ne h1 (by decide) rfl
      · exact wosR_shift (HLc _ HKp.out).out.2 y hy
    have hrd := rdB_of_rowR (by have := HOl.out; exact this) hwo
    have hsl : (r.ob ++ shiftR s live).length = r.ob.length + live.length := by rw [List.length_append, shiftR_length]
    have hFr : wr.ownsRow n0 3 1 (.slice fa (L.map Bk.at_).length fc) (L.map Bk.at_).length ((L.map Bk.at_).map (Value.int .i64)) := by have := HFr.out; rw [hfl] at this ⊢; exact this
    have hTo : wr.ownsRow n0 3 1 (.slice ta ((shift s L).map Bk.at_).length tc) ((shift s L).map Bk.at_).length (((shift s L).map Bk.at_).map (Value.int .i64)) := by have := HTo.out; rw [htl] at this ⊢; exact this
    have HC := Lib.hid (Rblocks_any hFr hTo (by rw [hfl, htl]) (by rw [hfl]; omega) hrd (by rw [List.length_map, hsl]; omega) (fun b hb => by
      obtain ⟨y, hy, rfl⟩ := List.mem_map.1 hb
      rcases List.mem_append.1 hy with hy | hy
      · have := H.out.len (b := y.b) (by rw [RH.log_all]; exact List.mem_map_of_mem (List.mem_append_right _ hy)); omega
      · obtain ⟨z, hz, _, e⟩ := shiftR_mem hy
        rw [e]
        have := H.out.len (b := z.b) (by rw [RH.log_all]; exact List.mem_map_of_mem (List.mem_append_left _ (Hlsub.out z hz))); omega))
    rw [hfl, htl] at HC
    have HFr2 := Lib.hid hFr; have HTo2 := Lib.hid hTo
    have Hfl := Lib.hid hfl; have Htl := Lib.hid htl
    clear hFr hTo hfl htl hrd hwo eL hsl HFr HTo
    go_wp2_with fail
    refine HC.out.mono ?_
    rintro e w6 ⟨vb, lb, rfl, hlb, hfb, hx6⟩
    have hbr0 : Blk W0 r.rp r.cells 69 := (H.out.ext HX0.out).blk
    have HBr : Hid (Blk w6 r.rp r.cells 69) := Lib.hid (hx6.blk (HKp.out.blk hbr0 fun e => by
      obtain ⟨cur, hc⟩ := ownsRow_type (H.out.ext HX0.out).orow e
      exact hc.ne hbr0 (by decide) rfl) id)
    have HFb := Lib.hid hfb; have Hlb2 := Lib.hid hlb
    have HF6 := Lib.hid (own_ext HFr2.out hx6)
    have HT6 := Lib.hid (own_ext HTo2.out hx6)
    have HK6 : Hid (Keeps (fun k => k = r.rp ∨ r.oa.ownBlock = some k) w w6) := Lib.hid ((HX0.out.mono fun _ _ h => h.elim : Keeps (fun k => k = r.rp ∨ r.oa.ownBlock = some k) w W0).trans ((HKp.out.mono fun _ _ h => .inr h : Keeps (fun k => k = r.rp ∨ r.oa.ownBlock = some k) W0 wr).trans (hx6.mono fun _ _ h => h.elim)))
    have Hwr : Hid (w.heap.size ≤ wr.heap.size) := Lib.hid (Nat.le_trans HX0.out.size HKp.out.size)
    obtain ⟨nr, hnr⟩ : ∃ nr, wr.heap.size = nr := ⟨_, rfl⟩
    rw [hnr] at HFb Hwr
    obtain ⟨ba, bc, rfl⟩ := rowR_len hfb.row
    clear hlb hfb hx6 hbr0 HC HFr2 HTo2 hnr
    have c3 : w6.cell? ⟨r.rp, 3, none⟩ = some r.oa := (HBr.out.cell 3).trans rfl
    have c2 : w6.cell? ⟨r.rp, 2, none⟩ = some r.ya := (HBr.out.cell 2).trans rfl
    have c4 : w6.cell? ⟨r.rp, 4, none⟩ = some r.ma := (HBr.out.cell 4).trans rfl
    have f3 := HBr.out.frozen 3
    have f2 := HBr.out.frozen 2
    have f4 := HBr.out.frozen 4
    go_upto_region 25 with fail
    obtain ⟨W7, hW7⟩ : ∃ W7, ((w6.setCell ⟨r.rp, 3, none⟩ (.slice ba lb.length bc)).setCell ⟨r.rp, 2, none⟩ (.slice none 0 0)).setCell ⟨r.rp, 4, none⟩ (.slice none 0 0) = W7 := ⟨_, rfl⟩
    have HK7 : Hid (Keeps (fun k => k = r.rp ∨ r.oa.ownBlock = some k) w W7) := Lib.hid (by
      rw [← hW7]
      exact ((HK6.out.setCell (p := ⟨r.rp, 3, none⟩) (.inl (.inl rfl)) _).setCell (p := ⟨r.rp, 2, none⟩) (.inl (.inl rfl)) _).setCell (p := ⟨r.rp, 4, none⟩) (.inl (.inl rfl)) _)
    have hb1 := HBr.out.set 3 (.slice ba lb.length bc)
    have hb2 := hb1.set 2 (.slice none 0 0)
    have hb3 := hb2.set 4 (.slice none 0 0)
    have HBr7 : Hid (Blk W7 r.rp ({ r with ya := .slice none 0 0, oa := .slice ba lb.length bc, ma := .slice none 0 0, yb := [], ob := lb, M := [] } : RH).cells 69) := Lib.hid (by
      rw [← hW7]
      have := hb3
      simpa [RH.cells] using this)
    have set3 : ∀ {b : Nat} {e : TypeId} {size : Nat} {v : Value} {n : Nat} {xs : List Value}, 69 ≠ e → w6.ownsRow b e size v n xs → W7.ownsRow b e size v n xs := fun hT h => by
      rw [← hW7]
      exact ownsRow_set (ownsRow_set (ownsRow_set h (a := ⟨r.rp, 3, none⟩) HBr.out hT _) (a := ⟨r.rp, 2, none⟩) hb1 hT _) (a := ⟨r.rp, 4, none⟩) hb2 hT _
    have HF7 := Lib.hid (set3 (by decide) HF6.out)
    have HT7 := Lib.hid (set3 (by decide) HT6.out)
    have HFb7 : Hid (FreshRow nr W7 (.slice ba lb.length bc) lb) := Lib.hid ⟨set3 (by decide) HFb.out.row, fun y hy => by
      rw [← hW7]
      have h0 := HFb.out.wo y hy
      have hne : y.arr ≠ r.rp := h0.ne HBr.out (by decide)
      exact ((h0.far (a := ⟨r.rp, 3, none⟩) hne _).far (a := ⟨r.rp, 2, none⟩) hne _).far (a := ⟨r.rp, 4, none⟩) hne _, HFb.out.nd, HFb.out.low⟩
    have hR7 : RdW W7 v roots := Hr.out.kept2 HK7.out fun hn k hk e => by
      rcases e with e | e
      · exact Hro.out hn k hk (.inl e)
      · exact Hro.out hn k hk (.inr (.inr (.inl e.symm)))
    have HCw := Lib.hid (Rwords_any HF7.out HT7.out (by rw [Hfl.out, Htl.out]) (by rw [Hfl.out]; omega) hR7 hl)
    rw [Hfl.out, Htl.out] at HCw
    rw [hW7]
    clear hW7 hb1 hb2 hb3 set3 hR7 c2 c3 c4 f2 f3 f4 HF6 HT6 HFb HBr HK6
    go_wp2_with fail
    refine HCw.out.mono ?_
    rintro e w8 ⟨arr, rfl, hba, harr, hx8⟩
    have HX8 := Lib.hid hx8
    have HBa := Lib.hid hba; have Harr := Lib.hid harr
    clear hba harr hx8 HCw
    go_wp2_with fail
    rw [← HM.out]
    have hmf : r.log.minorF roots = mvTo L (shift s L) := by
      rw [minorF_eq H.out.ok, ← Hlive.out, ← Hs.out]; rfl
    have hne0 : ∀ b ∈ L, b.at_ ≠ 0 := by rw [Hlive.out]; exact live_ne H.out.ok roots
    have hm : r.log.minor roots = (⟨r.Y, r.O, [], (r.log.ob ++ shift s L).map (mvB (r.log.minorF roots)), []⟩, roots.map (mvW (r.log.minorF roots)), 0) := by
      unfold LH.minor
      rw [if_neg Hb.out, if_neg (by rw [← Hlive.out]; have := Hfull.out; show ¬ (r.O - bused r.log.ob < bused L); omega), ← Hlive.out, ← Hs.out]; rfl
    have hlb : lb.map RB.b = (r.log.ob ++ shift s L).map (mvB (r.log.minorF roots)) := by
      rw [Hlb2.out, List.map_append, shiftR_map, HLm.out, hmf]
      exact List.map_congr_left fun b _ => movB_mvB hne0 b
    have hlog : (({ r with ya := .slice none 0 0, oa := .slice ba lb.length bc, ma := .slice none 0 0, yb := [], ob := lb, M := [] } : RH).log) = (r.log.minor roots).1 := by
      rw [hm]; show (⟨r.Y, r.O, _, lb.map RB.b, _⟩ : LH) = _; rw [hlb]; rfl
    have hsz : w.heap.size ≤ W7.heap.size := HK7.out.size
    have hF8 := HFb7.out.keeps HX8.out
    have hb0 := H.out.base_ r.rp (.inl rfl)
    have hR8 := RRep.mk2 (base := base) (n := nr) (r := ({ r with ya := .slice none 0 0, oa := .slice ba lb.length bc, ma := .slice none 0 0, yb := [], ob := lb, M := [] } : RH)) (HX8.out.blk HBr7.out id) hb0 (by have := Hwr.out; have := Hbs.out; omega) (FreshRow.nil _ _) hF8 (World.ownsRow_nil _ _ _ _) (fun k hk => by simp [Value.ownBlock] at hk) (fun y hy => by simp at hy) List.Pairwise.nil (fun k hk => by simp at hk) (by rw [hlog]; exact HOk.out) H.out.Y1 H.out.O1
    refine ⟨.slice (some ⟨arr, 0, none⟩) roots.length roots.length, by rw [hm]; rfl, ?_, fun k hk => ?_, _, hR8, rfl, ?_, ?_, fun k hk => ?_⟩
    · rw [hm]
      have h1 : (roots.map (movedW (L.map Bk.at_) ((shift s L).map Bk.at_))) = roots.map (mvW (r.log.minorF roots)) := by
        rw [hmf]; exact List.map_congr_left fun u _ => movedW_mvW hne0 u
      rw [← h1]
      have h2 := rdW_of_blk HBa.out roots.length
      rw [List.length_map] at h2
      exact h2
    · have h1 := Harr.out
      have h2 : arr = k := by simpa [Value.ownBlock] using hk
      omega
    · rw [← hlog]; exact Cpl.log _
    · refine (HK7.out.mono fun k _ e => ?_ : Keeps r.fp w W7).trans (HX8.out.mono fun _ _ h => h.elim)
      rcases e with e | e
      · exact .inl e
      · exact .inr (.inr (.inl e.symm))
    · rcases fp_mk2 (n := nr) (r := ({ r with ya := .slice none 0 0, oa := .slice ba lb.length bc, ma := .slice none 0 0, yb := [], ob := lb, M := [] } : RH)) (FreshRow.nil _ _) hF8 (World.ownsRow_nil _ _ _ _) k hk with e | e
      · exact .inl (.inl e)
      · exact .inr (by have := Hwr.out; omega)
end Go.Proofs.Ytikigppfnhilhaa
