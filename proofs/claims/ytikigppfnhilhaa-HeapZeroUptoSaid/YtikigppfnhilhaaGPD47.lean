/- Major of the reference: the walk. -/
import Derived.Test.YtikigppfnhilhaaGPD46
/- Major of the reference: the walk. -/
namespace Go.Proofs.Ytikigppfnhilhaa
open Go.RowKit Go.Instr
set_option linter.unusedVariables false
set_option linter.unusedSimpArgs false
attribute [local go_sem] Oper.semAt_some

theorem refW_nonneg {h : LH} (k : LOk h) {u : Wd} (hb : h.bad u = false) : 0 ≤ refW u := by
  by_cases hz : refW u = 0
  · omega
  · obtain ⟨b, hb, e⟩ := bad_iff.1 hb hz
    have := k.pos2 hb; omega
theorem toY_any {h : LH} (k : LOk h) {b : Bk} (hb : ∀ u ∈ b.ws, h.bad u = false) : h.toY b = b.ws.any h.yg := by
  unfold LH.toY
  rw [Bool.eq_iff_iff, List.any_eq_true, List.any_eq_true]
  constructor
  · rintro ⟨u, hu, he⟩
    exact ⟨u, hu, by rw [← toY_yg u (refW_nonneg k (hb u hu))]; exact he⟩
  · rintro ⟨u, hu, he⟩
    exact ⟨u, hu, by rw [toY_yg u (refW_nonneg k (hb u hu))]; exact he⟩
/-- Which blocks of a list refer to young ones. -/
def remL (h : LH) (L : List Bk) (k : Int) : Prop := ∃ b ∈ L, b.ws.any h.yg = true ∧ b.at_ = k
theorem remL_snoc {h : LH} {L : List Bk} {b : Bk} {k : Int} : remL h (L ++ [b]) k ↔ remL h L k ∨ (k = b.at_ ∧ b.ws.any h.yg = true) := by
  unfold remL
  constructor
  · rintro ⟨c, hc, h1, h2⟩
    rcases List.mem_append.1 hc with hc | hc
    · exact .inl ⟨c, hc, h1, h2⟩
    · simp at hc; subst hc; exact .inr ⟨h2.symm, h1⟩
  · rintro (⟨c, hc, h1, h2⟩ | ⟨h1, h2⟩)
    · exact ⟨c, List.mem_append_left _ hc, h1, h2⟩
    · exact ⟨b, by simp, h2, h1.symm⟩
theorem major_R {h : LH} (k : LOk h) (hi : LInv h) {roots : List Wd} (hok : LOk (h.major roots).1) (hnb : ¬ roots.any h.bad = true) (j : Int) :
    j ∈ (h.major roots).1.R ↔ remL h (h.major roots).1.ob j := by
  have hL := LInv.major k hi roots
  unfold LH.major at *
  rw [if_neg hnb] at *
  show j ∈ ((((h.newO roots).map (mvB (h.majorF roots))).filter h.toY).map Bk.at_) ↔ _
  unfold remL
  rw [List.mem_map]
  constructor
  · rintro ⟨b, hb, e⟩
    obtain ⟨hb, ht⟩ := List.mem_filter.1 hb
    refine ⟨b, hb, ?_, e⟩
    have := toY_any hok (b := b) fun u hu => hL.ref b (List.mem_append_right _ hb) u hu
    exact this.symm.trans ht
  · rintro ⟨b, hb, ht, e⟩
    refine ⟨b, List.mem_filter.2 ⟨hb, ?_⟩, e⟩
    have := toY_any hok (b := b) fun u hu => hL.ref b (List.mem_append_right _ hb) u hu
    exact this.trans ht
theorem FreshRow.base {n m : Nat} {w : World} {v : Value} {l : List RB} (h : FreshRow m w v l) (hn : n ≤ m) : FreshRow n w v l :=
  ⟨ownsRow_base h.row hn, h.wo, h.nd, fun y hy => by have := h.low y hy; omega⟩
theorem six_of_blk {w : World} {arr : Nat} {ws : List Wd} (hb : Blk w arr (flat ws) 33) {i : Nat} {u : Wd} (hu : ws[i]? = some u) :
    w.cell? ⟨arr, i * 6, none⟩ = some (.int .i64 u.tag) ∧ w.cell? ⟨arr, i * 6 + 1, none⟩ = some (.int .i64 u.a) ∧ w.cell? ⟨arr, i * 6 + 2, none⟩ = some (.int .i64 u.b) ∧
    w.cell? ⟨arr, i * 6 + 3, none⟩ = some (.string u.text) ∧ w.cell? ⟨arr, i * 6 + 4, none⟩ = some (.int .i64 u.man) ∧ w.cell? ⟨arr, i * 6 + 5, none⟩ = some (.int .i64 u.exp) := by
  have h := fun j hj => (hb.cell (i * 6 + j)).trans (flat_get ws i u hu j hj)
  exact ⟨(h 0 (by omega)).trans rfl, (h 1 (by omega)).trans rfl, (h 2 (by omega)).trans rfl, (h 3 (by omega)).trans rfl, (h 4 (by omega)).trans rfl, (h 5 (by omega)).trans rfl⟩
set_option maxRecDepth 100000 in
set_option maxHeartbeats 16000000 in
theorem RMajor_any {w : World} {base : Nat} {r : RH} (h : RRep w base r) (hi : LInv r.log) {v : Value} {roots : List Wd} (hr : RdW w v roots) (hro : roots ≠ [] → ∀ k, v.ownBlock = some k → ¬ r.fp k) (hl : roots.length ≤ 1048576) (hok : LOk (r.log.major roots).1) :
    Calls Try.prog 78 #[.pointer (some ⟨r.rp, 0, none⟩), v] w (RCollR w base r (r.log.major roots)) := by
  have HI := Lib.hid hi
  have hB := hi.ref
  have HV := Lib.hid (Rrights_any h hr (by omega))
  have Hr := Lib.hid hr; have H := Lib.hid h; have HBd := Lib.hid hB; have Hro := Lib.hid hro; have HOk := Lib.hid hok
  obtain ⟨ya, yc, hya⟩ : ∃ a c, r.ya = .slice a r.yb.length c := own_slice h.yrow
  obtain ⟨oa, oc, hoa⟩ : ∃ a c, r.oa = .slice a r.ob.length c := own_slice h.orow
  have Hya := Lib.hid hya; have Hoa := Lib.hid hoa
  generalize hM : RCollR w base r (r.log.major roots) = M
  have HM := Lib.hid hM
  clear hr hM h hB hi hro hok hya hoa
  go_enter Try.func78, Try.ntmps78
  go_wp2_with fail
  refine HV.out.mono ?_
  rintro e w1 ⟨rfl, hx1⟩
  have HX1 := Lib.hid hx1
  clear hx1 HV
  by_cases hb : roots.any r.log.bad = true
  · rw [hb]
    go_wp2_with fail
    rw [← HM.out]
    have hm : r.log.major roots = (r.log, [], 1) := by unfold LH.major; rw [if_pos hb]
    rw [hm]
    exact ⟨.slice none 0 0, rfl, ⟨none, 0, rfl, fun _ => rfl, fun ad had => by cases had⟩, fun k hk => by simp [Value.ownBlock] at hk, RStep.same H.out (Cpl.log r) HX1.out⟩
  have hb' : roots.any r.log.bad = false := by simpa using hb
  have Hb := Lib.hid hb
  have Hbf : Hid (∀ u ∈ roots, r.log.bad u = false) := Lib.hid fun u hu => by
    cases hc : r.log.bad u with
    | false => rfl
    | true => exact (hb (List.any_eq_true.2 ⟨u, hu, hc⟩)).elim
  have HC := Lib.hid (Rreach_any (H.out.ext HX1.out) HBd.out (yo := false) (World.ownsRow_nil _ _ _ _) (RQ.start List.Pairwise.nil (by simp) (by simp)) (Hr.out.ext HX1.out) (by omega) Hbf.out)
  rw [hb']
  clear hb hb'
  go_wp2_with fail
  refine HC.out.mono ?_
  rintro e w2 ⟨v', K, rfl, hrow, hK, hx2⟩
  have HX2 := Lib.hid (HX1.out.trans hx2)
  have HK := Lib.hid hK; have HRow := Lib.hid hrow
  obtain ⟨ka, kc, rfl⟩ := own_slice hrow
  clear hK hrow hx2 HC HX1
  have HkO := Lib.hid (keptO_eq H.out.ok HK.out)
  have HkY := Lib.hid (keptY_eq H.out.ok HK.out)
  have HKn : Hid (K.length ≤ 1000000) := Lib.hid (Nat.le_trans HK.out.count (Nat.le_trans H.out.alllen (by omega)))
  obtain ⟨lo, hlo⟩ : ∃ lo, r.ob.filter (fun y => decide (y.b.at_ ∈ K)) = lo := ⟨_, rfl⟩
  obtain ⟨ly, hly⟩ : ∃ ly, r.yb.filter (fun y => decide (y.b.at_ ∈ K)) = ly := ⟨_, rfl⟩
  have hobl : r.ob.length ≤ 1000 := by have h1 := H.out.olen; simpa [RH.log] using h1
  have hybl : r.yb.length ≤ 1000 := by have h1 := H.out.ylen; simpa [RH.log] using h1
  have Hlo : Hid (lo.map RB.b = r.log.keptO roots) := Lib.hid (by
    rw [HkO.out, ← hlo]
    show _ = (r.ob.map RB.b).filter _
    rw [List.filter_map]; rfl)
  have Hly : Hid (ly.map RB.b = r.log.keptY roots) := Lib.hid (by
    rw [HkY.out, ← hly]
    show _ = (r.yb.map RB.b).filter _
    rw [List.filter_map]; rfl)
  have Hlos : Hid (∀ y ∈ lo, y ∈ r.ob) := Lib.hid fun y hy => (List.mem_filter.1 (by rw [hlo]; exact hy)).1
  have Hlys : Hid (∀ y ∈ ly, y ∈ r.yb) := Lib.hid fun y hy => (List.mem_filter.1 (by rw [hly]; exact hy)).1
  have hlol : lo.length ≤ 1000 := by rw [← hlo]; have h2 := List.length_filter_le (fun y => decide (y.b.at_ ∈ K)) r.ob; omega
  have hlyl : ly.length ≤ 1000 := by rw [← hly]; have h2 := List.length_filter_le (fun y => decide (y.b.at_ ∈ K)) r.yb; omega
  have HKo := Lib.hid (Rkept_any (H.out.ext HX2.out).orow (by omega) HRow.out HK.out.sorted HKn.out)
  rw [hlo, Hoa.out] at HKo
  have Hly0 := Lib.hid hly
  have c3 : w2.cell? ⟨r.rp, 0 + 3, none⟩ = some (.slice oa r.ob.length oc) := by rw [← Hoa.out]; exact (H.out.ext HX2.out).c3
  clear hlo hly HkO HkY
  go_wp2_with fail
  refine HKo.out.mono ?_
  rintro e w3 ⟨vo, rfl, hor, hx3⟩
  have HX3 := Lib.hid (HX2.out.trans hx3)
  have HRow3 := Lib.hid (own_ext HRow.out hx3)
  have HO3 : Hid (rowR w3 w.heap.size vo lo) := Lib.hid (ownsRow_base hor HX2.out.size)
  obtain ⟨la, lc, rfl⟩ := rowR_len hor
  have HKy := Lib.hid (Rkept_any (H.out.ext HX3.out).yrow (by omega) HRow3.out HK.out.sorted HKn.out)
  rw [Hly0.out, Hya.out] at HKy
  clear hor hx3 HKo HX2 HRow c3
  have c2 : w3.cell? ⟨r.rp, 0 + 2, none⟩ = some (.slice ya r.yb.length yc) := by rw [← Hya.out]; exact (H.out.ext HX3.out).c2
  go_wp2_with fail
  refine HKy.out.mono ?_
  rintro e W0 ⟨vy, rfl, hyr, hx4⟩
  have HX0 := Lib.hid (HX3.out.trans hx4)
  have HO0 := Lib.hid (rowR_ext HO3.out hx4)
  have HY0 : Hid (rowR W0 w.heap.size vy ly) := Lib.hid (ownsRow_base hyr HX3.out.size)
  obtain ⟨ja, jc, rfl⟩ := rowR_len hyr
  clear hyr hx4 HKy HX3 HRow3 HO3 c2
  have y0 : W0.cell? ⟨r.rp, 0, none⟩ = some (.int .i64 r.Y) := (H.out.ext HX0.out).c0
  have hY0 : 0 ≤ r.Y := H.out.ok.Y0
  have hY1 : r.Y ≤ 1000 := H.out.Y1
  have hO0 : 0 ≤ r.O := H.out.ok.O0
  have hO1 : r.O ≤ 1000 := H.out.O1
  go_wp2_with fail
  obtain ⟨n0, hn0⟩ : ∃ n0, W0.heap.size = n0 := ⟨_, rfl⟩
  have Hn0 := Lib.hid hn0
  have Hwn : Hid (w.heap.size ≤ n0) := Lib.hid (by rw [← hn0]; exact HX0.out.size)
  have Hbs : Hid (base ≤ w.heap.size) := Lib.hid H.out.base_le
  obtain ⟨LO, hLO⟩ : ∃ L, lo.map RB.b = L := ⟨_, rfl⟩
  obtain ⟨LY, hLY⟩ : ∃ L, ly.map RB.b = L := ⟨_, rfl⟩
  have HLO := Lib.hid hLO; have HLY := Lib.hid hLY
  have HLOl : Hid (LO.length = lo.length) := Lib.hid (by rw [← hLO]; simp)
  have HLYl : Hid (LY.length = ly.length) := Lib.hid (by rw [← hLY]; simp)
  rw [hLO] at Hlo
  rw [hLY] at Hly
  have Hubo : Hid (bused LO ≤ r.O) := Lib.hid (by
    rw [Hlo.out]; exact Int.le_trans (bused_filterR _ _) H.out.ok.uo)
  have Huby : Hid (bused LY ≤ r.Y) := Lib.hid (by
    rw [Hly.out]; exact Int.le_trans (bused_filterR _ _) H.out.ok.uy)
  clear hn0 hLO hLY y0 Hly0
  go_loopw [9, 10, 11, 13, 14] (fun fv tv ov nv iv wr => ∃ (i : Nat) (fa ta qa : Option Addr) (fc tc qc : Nat), i ≤ lo.length ∧ iv = .int .i64 i ∧ nv = .int .i64 (r.Y + 1 + bused (LO.take i)) ∧ fv = .slice fa i fc ∧ tv = .slice ta i tc ∧ ov = .slice qa i qc ∧ Hid (wr.ownsRow n0 3 1 (.slice fa i fc) ((LO.take i).map Bk.at_).length (((LO.take i).map Bk.at_).map (Value.int .i64))) ∧ Hid (wr.ownsRow n0 3 1 (.slice ta i tc) ((shift (r.Y + 1) (LO.take i)).map Bk.at_).length (((shift (r.Y + 1) (LO.take i)).map Bk.at_).map (Value.int .i64))) ∧ Hid (rowR wr n0 (.slice qa i qc) (shiftR (r.Y + 1) (lo.take i))) ∧ Hid (∀ k, Value.ownBlock (.slice fa i fc) = some k → Value.ownBlock (.slice ta i tc) ≠ some k) ∧ Hid (Ext W0 wr)) (fun fv tv ov nv iv wr => lo.length - (intOf iv).toNat)
  case atStart =>
    exact ⟨0, none, none, none, 0, 0, 0, Nat.zero_le _, rfl, by simp [bused], rfl, rfl, rfl, Lib.hid (World.ownsRow_nil _ _ _ _), Lib.hid (World.ownsRow_nil _ _ _ _), Lib.hid (by simpa [shiftR] using rowR_nil W0 n0), Lib.hid fun k hk => by simp [Value.ownBlock] at hk, Lib.hid (Ext.refl _)⟩
  case round =>
  obtain ⟨i, fa, ta, qa, fc, tc, qc, hi, rfl, rfl, rfl, rfl, rfl, HFr, HTo, HOl, HNe, HXp⟩ := hrel
  by_cases hlt : i < lo.length
  · obtain ⟨y, hy⟩ : ∃ y, lo[i]? = some y := ⟨_, List.getElem?_eq_getElem hlt⟩
    have Hy := Lib.hid hy
    have HyL : Hid (LO[i]? = some y.b) := Lib.hid (by rw [← HLO.out, List.getElem?_map, hy]; rfl)
    obtain ⟨g, c, e, -⟩ := rowR_at HO0.out hy
    injection e with e e2 e3; subst e; clear e2 e3
    have HS0 : ∀ V, Ext W0 V → Hid (V.cell? ⟨g, i * 3, none⟩ = some (.int .i64 y.b.at_) ∧ V.cell? ⟨g, i * 3 + 1, none⟩ = some (.int .i64 y.b.kind) ∧ V.cell? ⟨g, i * 3 + 2, none⟩ = some (.slice (some ⟨y.arr, 0, none⟩) y.b.ws.length y.b.ws.length)) := fun V hV => by
      obtain ⟨g2, c2, e, h0, h1, h2⟩ := rowR_at (rowR_ext HO0.out hV) hy
      injection e with e _ _; injection e with e; injection e with e _ _; subst e
      exact Lib.hid ⟨h0, h1, h2⟩
    have Hyl : Hid (y.b.ws.length ≤ 1000) := Lib.hid (H.out.len (by rw [RH.log_all]; exact List.mem_map_of_mem (List.mem_append_right _ (Hlos.out y (List.mem_of_getElem? hy)))))
    clear hy
    obtain ⟨a0, a1, a2⟩ := (HS0 _ HXp.out).out
    go_wp2_with (at_builtin; refine (fun h => h trivial : (True → _) → _) ?_)
    intro _
    have HXa : Hid (Ext W0 (wr.alloc (.cells #[.int .i64 y.b.at_] 3))) := Lib.hid (HXp.out.alloc _)
    have HFa := Lib.hid (own_ext HFr.out ((Ext.refl wr).alloc (.cells #[.int .i64 y.b.at_] 3)))
    refine wpList_append_I rfl _ _ rfl n0 (.slice fa i fc) ((LO.take i).map Bk.at_) rfl HFa.out wr.heap.size y.b.at_ rfl ((Blk.new wr _ _).cell 0) (by rw [List.length_map, List.length_take]; omega) (by have h1 := HXa.out.size; rw [Hn0.out] at h1; exact h1) ?_
    intro v1 w1b h1 hg1 hf1
    have e1 : (LO.take i).map Bk.at_ ++ [y.b.at_] = (LO.take (i + 1)).map Bk.at_ := by rw [List.take_add_one, HyL.out]; simp
    have hlen1 : ((LO.take (i + 1)).map Bk.at_).length = i + 1 := by rw [List.length_map, List.length_take]; have := HLOl.out; omega
    rw [e1] at h1
    obtain ⟨f1, g1, rfl⟩ := own_slice h1
    rw [hlen1] at h1 hf1 ⊢
    have Hlen1 := Lib.hid hlen1
    have HF1 : Hid (w1b.ownsRow n0 3 1 (.slice f1 (i + 1) g1) (i + 1) (((LO.take (i + 1)).map Bk.at_).map (Value.int .i64))) := Lib.hid h1
    have hk1 : Keeps (fun k => Value.ownBlock (.slice fa i fc) = some k) wr w1b := ((Keeps.refl _ wr).alloc _).grown hg1 fun k e => .inl e
    have HT1 := Lib.hid (ownsRow_keeps HTo.out fun k hk => hk1.block k (HTo.out.lt k hk).2 fun e => HNe.out k e hk)
    have HO1 : Hid (rowR w1b n0 (.slice qa i qc) (shiftR (r.Y + 1) (lo.take i))) := Lib.hid (ownsRow_keeps HOl.out fun k hk => hk1.block k (HOl.out.lt k hk).2 fun e => by
      obtain ⟨c1, h1⟩ := ownsRow_type HOl.out hk
      obtain ⟨c2, h2⟩ := ownsRow_type HFr.out e
      exact h1.ne h2 (by decide) rfl)
    have HK1 : Hid (Ext W0 w1b) := Lib.hid (HXp.out.trans' hk1 fun k hk e => by have h1 := (HFr.out.lt k e).1; have h2 := Hn0.out; omega)
    have HN1 : Hid (∀ k, Value.ownBlock (.slice f1 (i + 1) g1) = some k → Value.ownBlock (.slice ta i tc) ≠ some k) := Lib.hid fun k hk e => by
      rcases hf1 k hk with h | h
      · exact HNe.out k h e
      · have h2 := (HTo.out.lt k e).2
        simp at h; omega
    clear h1 hg1 hf1 hk1 e1 hlen1 HXa HFa HFr HTo HOl HXp HNe a0 a1 a2
    go_wp2_with (at_builtin; refine (fun h => h trivial : (True → _) → _) ?_)
    intro _
    have HXa : Hid (Ext W0 (w1b.alloc (.cells #[.int .i64 (r.Y + 1 + bused (LO.take i))] 3))) := Lib.hid (HK1.out.alloc _)
    have HTa := Lib.hid (own_ext HT1.out ((Ext.refl w1b).alloc (.cells #[.int .i64 (r.Y + 1 + bused (LO.take i))] 3)))
    refine wpList_append_I rfl _ _ rfl n0 (.slice ta i tc) ((shift (r.Y + 1) (LO.take i)).map Bk.at_) rfl HTa.out w1b.heap.size (r.Y + 1 + bused (LO.take i)) rfl ((Blk.new w1b _ _).cell 0) (by rw [List.length_map, shift_length, List.length_take]; omega) (by have h1 := HXa.out.size; rw [Hn0.out] at h1; exact h1) ?_
    intro v2 w2b h1 hg1 hf1
    have e1 : (shift (r.Y + 1) (LO.take i)).map Bk.at_ ++ [r.Y + 1 + bused (LO.take i)] = (shift (r.Y + 1) (LO.take (i + 1))).map Bk.at_ := (shift_take (r.Y + 1) LO HyL.out).symm
    have hlen1 : ((shift (r.Y + 1) (LO.take (i + 1))).map Bk.at_).length = i + 1 := by rw [List.length_map, shift_length, ← List.length_map (f := Bk.at_)]; exact Hlen1.out
    rw [e1] at h1
    obtain ⟨f2, g2, rfl⟩ := own_slice h1
    rw [hlen1] at h1 hf1 ⊢
    have Hlen2 := Lib.hid hlen1
    have HT2 : Hid (w2b.ownsRow n0 3 1 (.slice f2 (i + 1) g2) (i + 1) (((shift (r.Y + 1) (LO.take (i + 1))).map Bk.at_).map (Value.int .i64))) := Lib.hid h1
    have hk1 : Keeps (fun k => Value.ownBlock (.slice ta i tc) = some k) w1b w2b := ((Keeps.refl _ w1b).alloc _).grown hg1 fun k e => .inl e
    have HF2 := Lib.hid (ownsRow_keeps HF1.out fun k hk => hk1.block k (HF1.out.lt k hk).2 fun e => HN1.out k hk e)
    have HO2 : Hid (rowR w2b n0 (.slice qa i qc) (shiftR (r.Y + 1) (lo.take i))) := Lib.hid (ownsRow_keeps HO1.out fun k hk => hk1.block k (HO1.out.lt k hk).2 fun e => by
      obtain ⟨c1, h1⟩ := ownsRow_type HO1.out hk
      obtain ⟨c2, h2⟩ := ownsRow_type HT1.out e
      exact h1.ne h2 (by decide) rfl)
    have HK2 : Hid (Ext W0 w2b) := Lib.hid (HK1.out.trans' hk1 fun k hk e => by have h1 := (HT1.out.lt k e).1; have h2 := Hn0.out; omega)
    have HN2 : Hid (∀ k, Value.ownBlock (.slice f1 (i + 1) g1) = some k → Value.ownBlock (.slice f2 (i + 1) g2) ≠ some k) := Lib.hid fun k hk e => by
      rcases hf1 k e with h | h
      · exact HN1.out k hk h
      · have h2 := (HF1.out.lt k hk).2
        simp at h; omega
    clear h1 hg1 hf1 hk1 e1 hlen1 HXa HTa HF1 HT1 HO1 HK1 HN1
    go_upto_region 14 with fail
    have HS := HS0 _ HK2.out.drew
    refine region_S_plain (n := 3) (fun V => V.cell? ⟨g, i * 3, none⟩ = some (.int .i64 y.b.at_) ∧ V.cell? ⟨g, i * 3 + 1, none⟩ = some (.int .i64 y.b.kind) ∧ V.cell? ⟨g, i * 3 + 2, none⟩ = some (.slice (some ⟨y.arr, 0, none⟩) y.b.ws.length y.b.ws.length)) 16 (by kernel_rfl) ?_
    have HF3 : Hid (w2b.drew.ownsRow n0 3 1 (.slice f1 (i + 1) g1) (i + 1) (((LO.take (i + 1)).map Bk.at_).map (Value.int .i64))) := Lib.hid (own_ext HF2.out (Ext.refl w2b).drew)
    have HT3 : Hid (w2b.drew.ownsRow n0 3 1 (.slice f2 (i + 1) g2) (i + 1) (((shift (r.Y + 1) (LO.take (i + 1))).map Bk.at_).map (Value.int .i64))) := Lib.hid (own_ext HT2.out (Ext.refl w2b).drew)
    have HO3 : Hid (rowR w2b.drew n0 (.slice qa i qc) (shiftR (r.Y + 1) (lo.take i))) := Lib.hid (rowR_ext HO2.out (Ext.refl w2b).drew)
    have HK3 : Hid (Ext W0 w2b.drew) := Lib.hid HK2.out.drew
    clear HF2 HT2 HO2 HK2
    generalize w2b.drew = W3 at HF3 HT3 HO3 HK3 HS ⊢
    refine anyS_quiet (a2 := ?a0) 0 rfl rfl rfl (by kernel_rfl) (by kernel_rfl) (by kernel_rfl) (by kernel_rfl) (by kernel_rfl) (by kernel_rfl) (fun _ _ _ _ h => h) HS.out ?h0 ?k0
    case h0 => intro W hW K hK; obtain ⟨d0, d1, d2⟩ := hW; go_simp; exact hK
    refine anyS_quiet (a2 := ?a1) 1 rfl rfl rfl (by kernel_rfl) (by kernel_rfl) (by kernel_rfl) (by kernel_rfl) (by kernel_rfl) (by kernel_rfl) (fun _ _ _ _ h => h) HS.out ?h1 ?k1
    case h1 => intro W hW K hK; obtain ⟨d0, d1, d2⟩ := hW; go_simp; exact hK
    refine anyS_quiet (a2 := ?a2) 2 rfl rfl rfl (by kernel_rfl) (by kernel_rfl) (by kernel_rfl) (by kernel_rfl) (by kernel_rfl) (by kernel_rfl) (fun _ _ _ _ h => h) HS.out ?h2 ?k2
    case h2 => intro W hW K hK; obtain ⟨d0, d1, d2⟩ := hW; go_simp; exact hK
    refine anyS_quiet (a2 := ?a3) 3 rfl rfl rfl (by kernel_rfl) (by kernel_rfl) (by kernel_rfl) (by kernel_rfl) (by kernel_rfl) (by kernel_rfl) (fun _ _ _ _ h => h) HS.out ?h3 ?k3
    case h3 => intro W hW K hK; obtain ⟨d0, d1, d2⟩ := hW; go_simp; exact hK
    refine anyS_quiet (a2 := ?a4) 4 rfl rfl rfl (by kernel_rfl) (by kernel_rfl) (by kernel_rfl) (by kernel_rfl) (by kernel_rfl) (by kernel_rfl) (fun _ _ _ _ h => h) HS.out ?h4 ?k4
    case h4 => intro W hW K hK; obtain ⟨d0, d1, d2⟩ := hW; go_simp; exact hK
    refine anyS_quiet (a2 := ?a5) 5 rfl rfl rfl (by kernel_rfl) (by kernel_rfl) (by kernel_rfl) (by kernel_rfl) (by kernel_rfl) (by kernel_rfl) (fun _ _ _ _ h => h) HS.out ?h5 ?k5
    case h5 => intro W hW K hK; obtain ⟨d0, d1, d2⟩ := hW; go_simp; exact hK
    refine anyS_quiet (a2 := ?a6) 6 rfl rfl rfl (by kernel_rfl) (by kernel_rfl) (by kernel_rfl) (by kernel_rfl) (by kernel_rfl) (by kernel_rfl) (fun _ _ _ _ h => h) HS.out ?h6 ?k6
    case h6 => intro W hW K hK; obtain ⟨d0, d1, d2⟩ := hW; go_simp; exact hK
    refine anyS_quiet (a2 := ?a7) 7 rfl rfl rfl (by kernel_rfl) (by kernel_rfl) (by kernel_rfl) (by kernel_rfl) (by kernel_rfl) (by kernel_rfl) (fun _ _ _ _ h => h) HS.out ?h7 ?k7
    case h7 => intro W hW K hK; obtain ⟨d0, d1, d2⟩ := hW; go_simp; exact hK
    refine anyS_quiet (a2 := ?a8) 8 rfl rfl rfl (by kernel_rfl) (by kernel_rfl) (by kernel_rfl) (by kernel_rfl) (by kernel_rfl) (by kernel_rfl) (fun _ _ _ _ h => h) HS.out ?h8 ?k8
    case h8 => intro W hW K hK; obtain ⟨d0, d1, d2⟩ := hW; go_simp; exact hK
    refine anyS_quiet (a2 := ?a9) 9 rfl rfl rfl (by kernel_rfl) (by kernel_rfl) (by kernel_rfl) (by kernel_rfl) (by kernel_rfl) (by kernel_rfl) (fun _ _ _ _ h => h) HS.out ?h9 ?k9
    case h9 => intro W hW K hK; obtain ⟨d0, d1, d2⟩ := hW; go_simp; exact hK
    refine anyS_quiet (a2 := ?a10) 10 rfl rfl rfl (by kernel_rfl) (by kernel_rfl) (by kernel_rfl) (by kernel_rfl) (by kernel_rfl) (by kernel_rfl) (fun _ _ _ _ h => h) HS.out ?h10 ?k10
    case h10 => intro W hW K hK; obtain ⟨d0, d1, d2⟩ := hW; go_simp; exact hK
    refine anyS_quiet (a2 := ?a11) 11 rfl rfl rfl (by kernel_rfl) (by kernel_rfl) (by kernel_rfl) (by kernel_rfl) (by kernel_rfl) (by kernel_rfl) (fun _ _ _ _ h => h) HS.out ?h11 ?k11
    case h11 => intro W hW K hK; obtain ⟨d0, d1, d2⟩ := hW; go_simp; exact hK
    refine anyS_quiet (a2 := ?a12) 12 rfl rfl rfl (by kernel_rfl) (by kernel_rfl) (by kernel_rfl) (by kernel_rfl) (by kernel_rfl) (by kernel_rfl) (fun _ _ _ _ h => h) HS.out ?h12 ?k12
    case h12 => intro W hW K hK; obtain ⟨d0, d1, d2⟩ := hW; go_simp; exact hK
    refine anyS_only 13 rfl (by kernel_rfl) ?_
    gi_wp2
    refine And.intro (by first | exact .inr ⟨cell_allocO HS.out.1 _, cell_allocO HS.out.2.1 _, cell_allocO HS.out.2.2 _⟩ | exact ⟨cell_allocO HS.out.1 _, cell_allocO HS.out.2.1 _, cell_allocO HS.out.2.2 _⟩) ?_
    refine anyS_only 14 rfl (by kernel_rfl) ?_
    obtain ⟨i0, hi0, hz0, hz1, hz2⟩ := info_parts info_Block
    have Hol : Hid ((shiftR (r.Y + 1) (lo.take i)).length = i) := Lib.hid (by rw [shiftR_length, List.length_take]; omega)
    have Hrow3 : Hid (rowR (W3.alloc (.cells #[.int .i64 (r.Y + 1 + bused (LO.take i)), .int .i64 y.b.kind, .slice (some ⟨y.arr, 0, none⟩) y.b.ws.length y.b.ws.length] 49)) n0 (.slice qa i qc) (shiftR (r.Y + 1) (lo.take i))) := Lib.hid (rowR_ext HO3.out ((Ext.refl W3).alloc _))
    have Hsz : Hid (n0 ≤ W3.heap.size) := Lib.hid (by have h1 := HK3.out.size; rw [Hn0.out] at h1; exact h1)
    refine wpListIn_append_fresh rfl _ _ 28 rfl n0 49 i0 _ 3 40 Try.underlying28 hi0 hz0 hz1 hz2 rfl (by decide) (.slice qa i qc) (shiftR (r.Y + 1) (lo.take i)).length _ rfl Hrow3.out ⟨W3.heap.size, 0, none⟩ 1 1 [Value.int .i64 (r.Y + 1 + bused (LO.take i)), Value.int .i64 y.b.kind, Value.slice (some ⟨y.arr, 0, none⟩) y.b.ws.length y.b.ws.length] rfl rfl ?c1 ?c2 ?c3 ?c4 ?c5 ?_
    case c1 => exact cells_new W3 _ 49
    case c2 => simp [Value.oneCell']
    case c3 => have := Hol.out; unfold maxLen; omega
    case c4 => have := Hol.out; omega
    case c5 => have h1 := Hsz.out; simp; omega
    intro v' W4 hown hgrow hnil hfresh
    rw [Hol.out] at hown
    have Hown : Hid (rowR W4 n0 v' (shiftR (r.Y + 1) (lo.take (i + 1)))) := Lib.hid (by
      have e0 : shiftR (r.Y + 1) (lo.take (i + 1)) = shiftR (r.Y + 1) (lo.take i) ++ [{ y with b := { y.b with at_ := r.Y + 1 + bused (LO.take i) } }] := by
        rw [List.take_add_one, Hy.out]
        show shiftR (r.Y + 1) (lo.take i ++ [y]) = _
        rw [shiftR_append, shiftR_one, List.map_take, HLO.out]
      unfold rowR
      rw [e0, bksApp, List.length_append, Hol.out]
      have e1 : bksCells ([({ y with b := { y.b with at_ := r.Y + 1 + bused (LO.take i) } } : RB)].map RB.b) ([({ y with b := { y.b with at_ := r.Y + 1 + bused (LO.take i) } } : RB)].map RB.sl) = [Value.int .i64 (r.Y + 1 + bused (LO.take i)), Value.int .i64 y.b.kind, Value.slice (some ⟨y.arr, 0, none⟩) y.b.ws.length y.b.ws.length] := by simp [bksCells, bkCells, RB.sl]
      rw [e1]; exact hown)
    obtain ⟨va, vc, rfl⟩ := own_slice hown
    have hk4 : Keeps (fun j => Value.ownBlock (.slice qa i qc) = some j) W3 W4 := ((Keeps.refl _ W3).alloc _).grown hgrow fun j e => .inl e
    have HF4 := Lib.hid (ownsRow_keeps HF3.out fun k hk => hk4.block k (HF3.out.lt k hk).2 fun e => by
      obtain ⟨c1, h1⟩ := ownsRow_type HF3.out hk
      obtain ⟨c2, h2⟩ := ownsRow_type HO3.out e
      exact h1.ne h2 (by decide) rfl)
    have HT4 := Lib.hid (ownsRow_keeps HT3.out fun k hk => hk4.block k (HT3.out.lt k hk).2 fun e => by
      obtain ⟨c1, h1⟩ := ownsRow_type HT3.out hk
      obtain ⟨c2, h2⟩ := ownsRow_type HO3.out e
      exact h1.ne h2 (by decide) rfl)
    have HK4 : Hid (Ext W0 W4) := Lib.hid (HK3.out.trans' hk4 fun k hk e => by have h1 := (HO3.out.lt k e).1; have h2 := Hn0.out; omega)
    have HS4 := HS0 _ HK4.out
    have Hown2 : Hid (rowR W4 n0 (.slice va (i + 1) vc) (shiftR (r.Y + 1) (lo.take (i + 1)))) := Hown
    clear hown hgrow hnil hfresh hk4 HF3 HT3 HO3 HK3 HS Hrow3 Hown
    gi_wp2
    refine And.intro (by first | exact .inr HS4.out | exact HS4.out) ?_
    refine anyS_quiet (a2 := ?ab_15) 15 rfl rfl rfl (by kernel_rfl) (by kernel_rfl) (by kernel_rfl) (by kernel_rfl) (by kernel_rfl) (by kernel_rfl) (fun _ _ _ _ h => h) HS4.out ?hb_15 ?kb_15
    case hb_15 => intro W hW K hK; obtain ⟨d0, d1, d2⟩ := hW; go_simp; exact hK
    refine anyS_done (by kernel_rfl) ?_ _
    obtain ⟨a0, a1, a2⟩ := HS4.out
    have hbt0 : 0 ≤ bused (LO.take i) := bused_nonneg _
    have hbt1 : bused (LO.take i) ≤ 1000 := Int.le_trans (bused_take_le i LO) (Int.le_trans Hubo.out hO1)
    have hyl : y.b.ws.length ≤ 1000 := Hyl.out
    go_wp2_with fail
    refine ⟨⟨i + 1, f1, f2, va, g1, g2, vc, by omega, by simp, ?_, rfl, rfl, rfl, by rw [Hlen1.out]; exact HF4, by rw [Hlen2.out]; exact HT4, Hown2, HN2, HK4⟩, by simp only [intOf]; omega⟩
    rw [bused_take HyL.out, Int.add_assoc]
  have hin : i = lo.length := by omega
  subst hin
  have eL : LO.take lo.length = LO := by rw [← HLOl.out, List.take_length]
  rw [eL] at HFr HTo
  rw [List.take_length] at HOl
  rw [eL]
  clear hlt hi eL
  have HX1 := Lib.hid (HX0.out.trans HXp.out)
  go_wp2_with fail
  obtain ⟨R0, hR0⟩ : ∃ R0, r.O - bused LO = R0 := ⟨_, rfl⟩
  have HR0 := Lib.hid hR0
  clear hR0
  go_loopw [9, 10, 11, 12, 13, 15, 16, 17] (fun fv tv ov yv nv mv qv iv wr => ∃ (i : Nat) (A B : List RB) (fa ta qa pa : Option Addr) (fc tc qc pc : Nat), i ≤ ly.length ∧ iv = .int .i64 i ∧ nv = .int .i64 (r.Y + 1 + bused LO + bused (A.map RB.b)) ∧ mv = .bool B.isEmpty ∧ qv = .int .i64 (1 + bused (B.map RB.b)) ∧ fv = .slice fa (lo.length + i) fc ∧ tv = .slice ta (lo.length + i) tc ∧ ov = .slice qa (lo.length + A.length) qc ∧ yv = .slice pa B.length pc ∧ Hid (fitsR R0 (ly.take i) = (A, B)) ∧
      Hid (wr.ownsRow n0 3 1 (.slice fa (lo.length + i) fc) (lo.length + i) ((LO.map Bk.at_ ++ (LY.take i).map Bk.at_).map (Value.int .i64))) ∧ Hid (wr.ownsRow n0 3 1 (.slice ta (lo.length + i) tc) (lo.length + i) (((shift (r.Y + 1) (LO ++ A.map RB.b)).map Bk.at_ ++ (shift 1 (B.map RB.b)).map Bk.at_).map (Value.int .i64))) ∧
      Hid (rowR wr n0 (.slice qa (lo.length + A.length) qc) (shiftR (r.Y + 1) (lo ++ A))) ∧ Hid (rowR wr n0 (.slice pa B.length pc) (shiftR 1 B)) ∧ Hid (∀ k, Value.ownBlock (.slice fa (lo.length + i) fc) = some k → Value.ownBlock (.slice ta (lo.length + i) tc) ≠ some k) ∧ Hid (∀ k, Value.ownBlock (.slice qa (lo.length + A.length) qc) = some k → Value.ownBlock (.slice pa B.length pc) ≠ some k) ∧ Hid (Ext W0 wr)) (fun fv tv ov yv nv mv qv iv wr => ly.length - (intOf iv).toNat)
  case atStart =>
    refine ⟨0, [], [], fa, ta, qa, none, fc, tc, qc, 0, Nat.zero_le _, rfl, by simp [bused], rfl, by simp [bused], rfl, rfl, rfl, rfl, Lib.hid rfl, Lib.hid ?_, Lib.hid ?_, Lib.hid ?_, Lib.hid (rowR_nil _ _), HNe, Lib.hid fun k hk => by simp [Value.ownBlock], HXp⟩
    · have h1 := HFr.out
      rw [List.length_map, HLOl.out] at h1
      simpa using h1
    · have h1 := HTo.out
      rw [List.length_map, shift_length, HLOl.out] at h1
      simpa [shift] using h1
    · simpa using HOl.out
  case round =>
  clear HFr HTo HOl HNe HXp
  obtain ⟨i, A, B, fa, ta, qa, pa, fc, tc, qc, pc, hi, rfl, rfl, rfl, rfl, rfl, rfl, rfl, rfl, HAB, HFr, HTo, HOl, HYl, HNe, HNo, HXp⟩ := hrel
  by_cases hlt : i < ly.length
  · obtain ⟨y, hy⟩ : ∃ y, ly[i]? = some y := ⟨_, List.getElem?_eq_getElem hlt⟩
    have Hy := Lib.hid hy
    have HyL : Hid (LY[i]? = some y.b) := Lib.hid (by rw [← HLY.out, List.getElem?_map, hy]; rfl)
    have HABl : Hid (A ++ B = ly.take i) := Lib.hid (by have h1 := fitsR_append R0 (ly.take i); rw [HAB.out] at h1; exact h1)
    have HAl : Hid (A.length ≤ 1000 ∧ B.length ≤ 1000) := Lib.hid (by
      have h1 := congrArg List.length HABl.out
      rw [List.length_append, List.length_take] at h1; omega)
    obtain ⟨g, c, e, -⟩ := rowR_at HY0.out hy
    injection e with e e2 e3; subst e; clear e2 e3
    have HS0 : ∀ V, Ext W0 V → Hid (V.cell? ⟨g, i * 3, none⟩ = some (.int .i64 y.b.at_) ∧ V.cell? ⟨g, i * 3 + 1, none⟩ = some (.int .i64 y.b.kind) ∧ V.cell? ⟨g, i * 3 + 2, none⟩ = some (.slice (some ⟨y.arr, 0, none⟩) y.b.ws.length y.b.ws.length)) := fun V hV => by
      obtain ⟨g2, c2, e, h0, h1, h2⟩ := rowR_at (rowR_ext HY0.out hV) hy
      injection e with e _ _; injection e with e; injection e with e _ _; subst e
      exact Lib.hid ⟨h0, h1, h2⟩
    have Hyl : Hid (y.b.ws.length ≤ 1000) := Lib.hid (H.out.len (by rw [RH.log_all]; exact List.mem_map_of_mem (List.mem_append_left _ (Hlys.out y (List.mem_of_getElem? hy)))))
    clear hy
    obtain ⟨a0, a1, a2⟩ := (HS0 _ HXp.out).out
    obtain ⟨bt, hbt⟩ : ∃ bt, wr.heap.size = bt := ⟨_, rfl⟩
    have hyl : y.b.ws.length ≤ 1000 := Hyl.out
    go_upto_region 23 with fail
    obtain ⟨W1, hW1⟩ : ∃ W1, wr.alloc (.cells #[.int .i64 y.b.at_, .int .i64 y.b.kind, .slice (some ⟨y.arr, 0, none⟩) y.b.ws.length y.b.ws.length] 49) = W1 := ⟨_, rfl⟩
    have hx1 : Ext wr W1 := by rw [← hW1]; exact (Ext.refl wr).alloc _
    have HBt : Hid (Blk W1 bt #[.int .i64 y.b.at_, .int .i64 y.b.kind, .slice (some ⟨y.arr, 0, none⟩) y.b.ws.length y.b.ws.length] 49) := Lib.hid (by rw [← hW1, ← hbt]; exact Blk.new wr _ _)
    have HXn := Lib.hid (HXp.out.trans hx1)
    have HF1 := Lib.hid (own_ext HFr.out hx1)
    have HT1 := Lib.hid (own_ext HTo.out hx1)
    have HO1 := Lib.hid (rowR_ext HOl.out hx1)
    have HY1 := Lib.hid (rowR_ext HYl.out hx1)
    rw [hW1]
    clear hx1 hW1 HFr HTo HOl HYl HXp a0 a1 a2 hbt
    have y0 : W1.cell? ⟨r.rp, 0, none⟩ = some (.int .i64 r.Y) := (H.out.ext (HX0.out.trans HXn.out)).c0
    have o0 : W1.cell? ⟨r.rp, 0 + 1, none⟩ = some (.int .i64 r.O) := (H.out.ext (HX0.out.trans HXn.out)).c1
    have hA0 : 0 ≤ bused (A.map RB.b) := bused_nonneg _
    have hAB : bused (A.map RB.b) + bused (B.map RB.b) ≤ bused LY := by
      rw [← bused_append, ← List.map_append, HABl.out, List.map_take, HLY.out]; exact bused_take_le i LY
    have hLO0 : 0 ≤ bused LO := bused_nonneg _
    have hLO1 : bused LO ≤ r.O := Hubo.out
    have hLY1 : bused LY ≤ r.Y := Huby.out
    have hB0 : 0 ≤ bused (B.map RB.b) := bused_nonneg _
    have hRd : r.O - bused LO = R0 := HR0.out
    have HRd := Lib.hid hRd
    clear hRd
    obtain ⟨BB, hBB⟩ : ∃ BB, B = BB := ⟨_, rfl⟩
    subst hBB
    have HF24 : Hid (∀ W2, Ext W1 W2 → Ext W0 W2 ∧ Blk W2 bt #[.int .i64 y.b.at_, .int .i64 y.b.kind, .slice (some ⟨y.arr, 0, none⟩) y.b.ws.length y.b.ws.length] 49 ∧ W2.ownsRow n0 3 1 (.slice fa (lo.length + i) fc) (lo.length + i) ((LO.map Bk.at_ ++ (LY.take i).map Bk.at_).map (Value.int .i64)) ∧ W2.ownsRow n0 3 1 (.slice ta (lo.length + i) tc) (lo.length + i) (((shift (r.Y + 1) (LO ++ A.map RB.b)).map Bk.at_ ++ (shift 1 (B.map RB.b)).map Bk.at_).map (Value.int .i64)) ∧ rowR W2 n0 (.slice qa (lo.length + A.length) qc) (shiftR (r.Y + 1) (lo ++ A)) ∧ rowR W2 n0 (.slice pa B.length pc) (shiftR 1 B)) := Lib.hid fun W2 hx => ⟨HXn.out.trans hx, hx.blk HBt.out id, own_ext HF1.out hx, own_ext HT1.out hx, rowR_ext HO1.out hx, rowR_ext HY1.out hx⟩
    have hlF : (LO.map Bk.at_ ++ (LY.take i).map Bk.at_).length = lo.length + i := by
      have h1 := HLOl.out; have h2 := HLYl.out
      rw [List.length_append, List.length_map, List.length_map, List.length_take]; omega
    have HlF := Lib.hid hlF
    have e1 : (LO.map Bk.at_ ++ (LY.take i).map Bk.at_) ++ [y.b.at_] = LO.map Bk.at_ ++ (LY.take (i + 1)).map Bk.at_ := by rw [List.take_add_one, HyL.out]; simp
    have He1 := Lib.hid e1
    clear hlF e1 HF1 HT1 HO1 HY1 HXn HBt
    cases B with
    | cons z B' =>
      have hem : (z :: B').isEmpty = false := rfl
      rw [hem]
      go_big_region
      go_upto_region 24 with fail
      generalize hW2 : W1.drew = W2
      obtain ⟨hx2, hb2, hf2, ht2, ho2, hy2⟩ := HF24.out W2 (by rw [← hW2]; exact (Ext.refl W1).drew)
      have HX2b := Lib.hid hx2; have HB2 := Lib.hid hb2; have HF2 := Lib.hid hf2; have HT2 := Lib.hid ht2; have HO2 := Lib.hid ho2; have HY2 := Lib.hid hy2
      clear hx2 hb2 hf2 ht2 ho2 hy2 hW2 y0 o0 HF24
      have t0 : W2.cell? ⟨bt, 0, none⟩ = some (.int .i64 y.b.at_) := (HB2.out.cell 0).trans rfl
      go_wp2_with (at_builtin; refine (fun h => h trivial : (True → _) → _) ?_)
      intro _
      have HXa : Hid (Ext W0 (W2.alloc (.cells #[.int .i64 y.b.at_] 3))) := Lib.hid (HX2b.out.alloc _)
      have HFa : Hid ((W2.alloc (.cells #[.int .i64 y.b.at_] 3)).ownsRow n0 3 1 (.slice fa (lo.length + i) fc) (LO.map Bk.at_ ++ (LY.take i).map Bk.at_).length ((LO.map Bk.at_ ++ (LY.take i).map Bk.at_).map (Value.int .i64))) := Lib.hid (by rw [HlF.out]; exact own_ext HF2.out ((Ext.refl W2).alloc (.cells #[.int .i64 y.b.at_] 3)))
      refine wpList_append_I rfl _ _ rfl n0 (.slice fa (lo.length + i) fc) (LO.map Bk.at_ ++ (LY.take i).map Bk.at_) rfl HFa.out W2.heap.size y.b.at_ rfl ((Blk.new W2 _ _).cell 0) (by rw [HlF.out]; omega) (by have h1 := HXa.out.size; rw [Hn0.out] at h1; exact h1) ?_
      intro v1 w3 h1 hg1 hf1
      have hlen1 : ((LO.map Bk.at_ ++ (LY.take i).map Bk.at_) ++ [y.b.at_]).length = lo.length + (i + 1) := by rw [List.length_append, HlF.out]; rfl
      rw [hlen1, He1.out] at h1
      obtain ⟨f1, g1, rfl⟩ := own_slice h1
      have HF3 := Lib.hid h1
      have hk1 : Keeps (fun k => Value.ownBlock (.slice fa (lo.length + i) fc) = some k) W2 w3 := ((Keeps.refl _ W2).alloc _).grown hg1 fun k e => .inl e
      have HT3 := Lib.hid (ownsRow_keeps HT2.out fun k hk => hk1.block k (HT2.out.lt k hk).2 fun e => HNe.out k e hk)
      have HO3 := Lib.hid (ownsRow_keeps HO2.out fun k hk => hk1.block k (HO2.out.lt k hk).2 fun e => by
        obtain ⟨c1, h1⟩ := ownsRow_type HO2.out hk
        obtain ⟨c2, h2⟩ := ownsRow_type HF2.out e
        exact h1.ne h2 (by decide) rfl)
      have HY3 := Lib.hid (ownsRow_keeps HY2.out fun k hk => hk1.block k (HY2.out.lt k hk).2 fun e => by
        obtain ⟨c1, h1⟩ := ownsRow_type HY2.out hk
        obtain ⟨c2, h2⟩ := ownsRow_type HF2.out e
        exact h1.ne h2 (by decide) rfl)
      have HB3 := Lib.hid (hk1.blk HB2.out fun e => by
        obtain ⟨c2, h2⟩ := ownsRow_type HF2.out e
        exact HB2.out.ne h2 (by decide) rfl)
      have HX3 : Hid (Ext W0 w3) := Lib.hid (HX2b.out.trans' hk1 fun k hk e => by have h1 := (HF2.out.lt k e).1; have h2 := Hn0.out; omega)
      have HN3 : Hid (∀ k, Value.ownBlock (.slice f1 (lo.length + (i + 1)) g1) = some k → Value.ownBlock (.slice ta (lo.length + i) tc) ≠ some k) := Lib.hid fun k hk e => by
        rcases hf1 k hk with h | h
        · exact HNe.out k h e
        · have h2 := (HT2.out.lt k e).2
          simp at h; omega
      clear h1 hg1 hf1 hk1 hlen1 HXa HFa HF2 HT2 HO2 HY2 HB2 HX2b t0
      obtain ⟨TL, hTL⟩ : ∃ TL, (shift (r.Y + 1) (LO ++ A.map RB.b)).map Bk.at_ ++ (shift 1 (((z :: B')).map RB.b)).map Bk.at_ = TL := ⟨_, rfl⟩
      rw [hTL] at HT3
      have hTl : TL.length = lo.length + i := by
        have h1 := congrArg List.length HABl.out
        have h2 := HLOl.out
        rw [← hTL]
        simp only [List.length_append, List.length_map, shift_length, List.length_take, List.length_cons, List.length_nil] at h1 ⊢
        omega
      obtain ⟨q, hq⟩ : ∃ q, 1 + bused ((z :: B').map RB.b) = q := ⟨_, rfl⟩
      have Hq := Lib.hid hq; have HTL := Lib.hid hTL; have HTl := Lib.hid hTl
      try rw [hq]
      have hq0 : 1 ≤ q := by have hbz : bused ([] : List Bk) = 0 := by simp [bused]
                             omega
      have hq1 : q ≤ 1001 := by have hbz : bused ([] : List Bk) = 0 := by simp [bused]
                                omega
      clear hTL hTl hq
      go_wp2_with (at_builtin; refine (fun h => h trivial : (True → _) → _) ?_)
      intro _
      have HXa : Hid (Ext W0 (w3.alloc (.cells #[.int .i64 q] 3))) := Lib.hid (HX3.out.alloc _)
      have HTa : Hid ((w3.alloc (.cells #[.int .i64 q] 3)).ownsRow n0 3 1 (.slice ta (lo.length + i) tc) TL.length (TL.map (Value.int .i64))) := Lib.hid (by rw [HTl.out]; exact own_ext HT3.out ((Ext.refl w3).alloc _))
      refine wpList_append_I rfl _ _ rfl n0 (.slice ta (lo.length + i) tc) TL rfl HTa.out w3.heap.size q rfl ((Blk.new w3 _ _).cell 0) (by rw [HTl.out]; omega) (by have h1 := HXa.out.size; rw [Hn0.out] at h1; exact h1) ?_
      intro v2 w4 h1 hg1 hf1
      have hlen1 : (TL ++ [q]).length = lo.length + (i + 1) := by rw [List.length_append, HTl.out]; rfl
      rw [hlen1] at h1
      obtain ⟨f2, g2, rfl⟩ := own_slice h1
      have HT4 := Lib.hid h1
      have hk1 : Keeps (fun k => Value.ownBlock (.slice ta (lo.length + i) tc) = some k) w3 w4 := ((Keeps.refl _ w3).alloc _).grown hg1 fun k e => .inl e
      have HF4 := Lib.hid (ownsRow_keeps HF3.out fun k hk => hk1.block k (HF3.out.lt k hk).2 fun e => HN3.out k hk e)
      have HO4 := Lib.hid (ownsRow_keeps HO3.out fun k hk => hk1.block k (HO3.out.lt k hk).2 fun e => by
        obtain ⟨c1, h1⟩ := ownsRow_type HO3.out hk
        obtain ⟨c2, h2⟩ := ownsRow_type HT3.out e
        exact h1.ne h2 (by decide) rfl)
      have HY4 := Lib.hid (ownsRow_keeps HY3.out fun k hk => hk1.block k (HY3.out.lt k hk).2 fun e => by
        obtain ⟨c1, h1⟩ := ownsRow_type HY3.out hk
        obtain ⟨c2, h2⟩ := ownsRow_type HT3.out e
        exact h1.ne h2 (by decide) rfl)
      have HB4 := Lib.hid (hk1.blk HB3.out fun e => by
        obtain ⟨c2, h2⟩ := ownsRow_type HT3.out e
        exact HB3.out.ne h2 (by decide) rfl)
      have HX4 : Hid (Ext W0 w4) := Lib.hid (HX3.out.trans' hk1 fun k hk e => by have h1 := (HT3.out.lt k e).1; have h2 := Hn0.out; omega)
      have HN4 : Hid (∀ k, Value.ownBlock (.slice f1 (lo.length + (i + 1)) g1) = some k → Value.ownBlock (.slice f2 (lo.length + (i + 1)) g2) ≠ some k) := Lib.hid fun k hk e => by
        rcases hf1 k e with h | h
        · exact HN3.out k hk h
        · have h2 := (HF3.out.lt k hk).2
          simp at h; omega
      clear h1 hg1 hf1 hk1 hlen1 HXa HTa HF3 HT3 HO3 HY3 HB3 HX3 HN3
      have t1 : w4.cell? ⟨bt, 0 + 1, none⟩ = some (.int .i64 y.b.kind) := (HB4.out.cell 1).trans rfl
      have t2 : w4.cell? ⟨bt, 0 + 2, none⟩ = some (.slice (some ⟨y.arr, 0, none⟩) y.b.ws.length y.b.ws.length) := (HB4.out.cell 2).trans rfl
      go_wp2_with (at_builtin; refine (fun h => h trivial : (True → _) → _) ?_)
      intro _
      have HXa : Hid (Ext W0 (w4.alloc (.cells #[.int .i64 q, .int .i64 y.b.kind, .slice (some ⟨y.arr, 0, none⟩) y.b.ws.length y.b.ws.length] 49))) := Lib.hid (HX4.out.alloc _)
      have HYa : Hid (rowR (w4.alloc (.cells #[.int .i64 q, .int .i64 y.b.kind, .slice (some ⟨y.arr, 0, none⟩) y.b.ws.length y.b.ws.length] 49)) n0 (.slice pa ((z :: B')).length pc) (shiftR 1 ((z :: B')))) := Lib.hid (rowR_ext HY4.out ((Ext.refl w4).alloc _))
      have HBl : Hid (((z :: B')).length ≤ 1000) := Lib.hid HAl.out.2
      refine wpList_append_R2 rfl _ _ rfl n0 (.slice pa ((z :: B')).length pc) (shiftR 1 ((z :: B'))) rfl HYa.out w4.heap.size { y with b := { y.b with at_ := q } } rfl (Blk.new w4 _ _) (by rw [shiftR_length]; have := HBl.out; omega) (by have h1 := HXa.out.size; rw [Hn0.out] at h1; exact h1) ?_
      intro v3 w5 h1 hg1 hf1
      have e0 : shiftR 1 ((z :: B')) ++ [{ y with b := { y.b with at_ := q } }] = shiftR 1 (((z :: B')) ++ [y]) := by
        rw [shiftR_append, shiftR_one, ← Hq.out]; try rfl
      have hlen1 : (shiftR 1 (((z :: B')) ++ [y])).length = (((z :: B')) ++ [y]).length := shiftR_length _ _
      rw [e0] at h1
      obtain ⟨p1, p2, rfl⟩ := rowR_len h1
      rw [hlen1] at h1 hf1 ⊢
      have HY5 := Lib.hid h1
      have hk1 : Keeps (fun k => Value.ownBlock (.slice pa ((z :: B')).length pc) = some k) w4 w5 := ((Keeps.refl _ w4).alloc _).grown hg1 fun k e => .inl e
      have HF5 := Lib.hid (ownsRow_keeps HF4.out fun k hk => hk1.block k (HF4.out.lt k hk).2 fun e => by
        obtain ⟨c1, h1⟩ := ownsRow_type HF4.out hk
        obtain ⟨c2, h2⟩ := ownsRow_type HY4.out e
        exact h1.ne h2 (by decide) rfl)
      have HT5 := Lib.hid (ownsRow_keeps HT4.out fun k hk => hk1.block k (HT4.out.lt k hk).2 fun e => by
        obtain ⟨c1, h1⟩ := ownsRow_type HT4.out hk
        obtain ⟨c2, h2⟩ := ownsRow_type HY4.out e
        exact h1.ne h2 (by decide) rfl)
      have HO5 := Lib.hid (ownsRow_keeps HO4.out fun k hk => hk1.block k (HO4.out.lt k hk).2 fun e => HNo.out k hk e)
      have HX5 : Hid (Ext W0 w5) := Lib.hid (HX4.out.trans' hk1 fun k hk e => by have h1 := (HY4.out.lt k e).1; have h2 := Hn0.out; omega)
      have HNo5 : Hid (∀ k, Value.ownBlock (.slice qa (lo.length + A.length) qc) = some k → Value.ownBlock (.slice p1 (((z :: B')) ++ [y]).length p2) ≠ some k) := Lib.hid fun k hk e => by
        rcases hf1 k e with h | h
        · exact HNo.out k hk h
        · have h2 := (HO4.out.lt k hk).2
          simp at h; omega
      clear h1 hg1 hf1 hk1 hlen1 e0 HXa HYa HF4 HO4 HY4 HB4 HX4 t1 t2
      go_wp2_with fail
      refine ⟨⟨i + 1, A, ((z :: B')) ++ [y], f1, f2, qa, p1, g1, g2, qc, p2, by omega, by simp, rfl, by simp, ?_, rfl, rfl, rfl, by simp, Lib.hid ?_, HF5, Lib.hid ?_, HO5, HY5, HN4, HNo5, HX5⟩, by simp only [intOf]; omega⟩
      · have e1 : 1 + bused ((((z :: B')) ++ [y]).map RB.b) = q + (y.b.ws.length + 1) := by
          rw [← Hq.out, List.map_append, bused_append]
          have : bused ([y].map RB.b) = (y.b.ws.length : Int) + 1 := by simp [bused]
          rw [this, Int.add_assoc]; try rfl
        rw [e1]
      · rw [List.take_add_one, Hy.out]
        show fitsR R0 (ly.take i ++ [y]) = _
        rw [fitsR_snoc, HAB.out]
        rw [if_neg (by simp)]
      · have e1 : (shift (r.Y + 1) (LO ++ A.map RB.b)).map Bk.at_ ++ (shift 1 ((((z :: B')) ++ [y]).map RB.b)).map Bk.at_ = TL ++ [q] := by
          have e2 : shift 1 ((((z :: B')) ++ [y]).map RB.b) = shift 1 (((z :: B')).map RB.b) ++ [{ y.b with at_ := q }] := by
            rw [List.map_append (f := RB.b), shift_append, ← Hq.out]; rfl
          rw [e2, List.map_append (l₁ := shift 1 (((z :: B')).map RB.b)), ← List.append_assoc, HTL.out]; rfl
        rw [e1]; exact HT5.out
    | nil =>
      have hem : ([] : List RB).isEmpty = true := rfl
      rw [hem]
      by_cases hfit : r.Y + 1 + bused LO + bused (A.map RB.b) + (y.b.ws.length + 1) ≤ r.Y + 1 + r.O
      · have Hfit := Lib.hid hfit
        go_big_region
        go_upto_region 24 with fail
        generalize hW2 : W1.drew = W2
        obtain ⟨hx2, hb2, hf2, ht2, ho2, hy2⟩ := HF24.out W2 (by rw [← hW2]; exact (Ext.refl W1).drew)
        have HX2b := Lib.hid hx2; have HB2 := Lib.hid hb2; have HF2 := Lib.hid hf2; have HT2 := Lib.hid ht2; have HO2 := Lib.hid ho2; have HY2 := Lib.hid hy2
        clear hx2 hb2 hf2 ht2 ho2 hy2 hW2 y0 o0 HF24
        have t0 : W2.cell? ⟨bt, 0, none⟩ = some (.int .i64 y.b.at_) := (HB2.out.cell 0).trans rfl
        go_wp2_with (at_builtin; refine (fun h => h trivial : (True → _) → _) ?_)
        intro _
        have HXa : Hid (Ext W0 (W2.alloc (.cells #[.int .i64 y.b.at_] 3))) := Lib.hid (HX2b.out.alloc _)
        have HFa : Hid ((W2.alloc (.cells #[.int .i64 y.b.at_] 3)).ownsRow n0 3 1 (.slice fa (lo.length + i) fc) (LO.map Bk.at_ ++ (LY.take i).map Bk.at_).length ((LO.map Bk.at_ ++ (LY.take i).map Bk.at_).map (Value.int .i64))) := Lib.hid (by rw [HlF.out]; exact own_ext HF2.out ((Ext.refl W2).alloc (.cells #[.int .i64 y.b.at_] 3)))
        refine wpList_append_I rfl _ _ rfl n0 (.slice fa (lo.length + i) fc) (LO.map Bk.at_ ++ (LY.take i).map Bk.at_) rfl HFa.out W2.heap.size y.b.at_ rfl ((Blk.new W2 _ _).cell 0) (by rw [HlF.out]; omega) (by have h1 := HXa.out.size; rw [Hn0.out] at h1; exact h1) ?_
        intro v1 w3 h1 hg1 hf1
        have hlen1 : ((LO.map Bk.at_ ++ (LY.take i).map Bk.at_) ++ [y.b.at_]).length = lo.length + (i + 1) := by rw [List.length_append, HlF.out]; rfl
        rw [hlen1, He1.out] at h1
        obtain ⟨f1, g1, rfl⟩ := own_slice h1
        have HF3 := Lib.hid h1
        have hk1 : Keeps (fun k => Value.ownBlock (.slice fa (lo.length + i) fc) = some k) W2 w3 := ((Keeps.refl _ W2).alloc _).grown hg1 fun k e => .inl e
        have HT3 := Lib.hid (ownsRow_keeps HT2.out fun k hk => hk1.block k (HT2.out.lt k hk).2 fun e => HNe.out k e hk)
        have HO3 := Lib.hid (ownsRow_keeps HO2.out fun k hk => hk1.block k (HO2.out.lt k hk).2 fun e => by
          obtain ⟨c1, h1⟩ := ownsRow_type HO2.out hk
          obtain ⟨c2, h2⟩ := ownsRow_type HF2.out e
          exact h1.ne h2 (by decide) rfl)
        have HY3 := Lib.hid (ownsRow_keeps HY2.out fun k hk => hk1.block k (HY2.out.lt k hk).2 fun e => by
          obtain ⟨c1, h1⟩ := ownsRow_type HY2.out hk
          obtain ⟨c2, h2⟩ := ownsRow_type HF2.out e
          exact h1.ne h2 (by decide) rfl)
        have HB3 := Lib.hid (hk1.blk HB2.out fun e => by
          obtain ⟨c2, h2⟩ := ownsRow_type HF2.out e
          exact HB2.out.ne h2 (by decide) rfl)
        have HX3 : Hid (Ext W0 w3) := Lib.hid (HX2b.out.trans' hk1 fun k hk e => by have h1 := (HF2.out.lt k e).1; have h2 := Hn0.out; omega)
        have HN3 : Hid (∀ k, Value.ownBlock (.slice f1 (lo.length + (i + 1)) g1) = some k → Value.ownBlock (.slice ta (lo.length + i) tc) ≠ some k) := Lib.hid fun k hk e => by
          rcases hf1 k hk with h | h
          · exact HNe.out k h e
          · have h2 := (HT2.out.lt k e).2
            simp at h; omega
        clear h1 hg1 hf1 hk1 hlen1 HXa HFa HF2 HT2 HO2 HY2 HB2 HX2b t0
        obtain ⟨TL, hTL⟩ : ∃ TL, (shift (r.Y + 1) (LO ++ A.map RB.b)).map Bk.at_ ++ (shift 1 (([] : List RB).map RB.b)).map Bk.at_ = TL := ⟨_, rfl⟩
        rw [hTL] at HT3
        have hTl : TL.length = lo.length + i := by
          have h1 := congrArg List.length HABl.out
          have h2 := HLOl.out
          rw [← hTL]
          simp only [List.length_append, List.length_map, shift_length, List.length_take, List.length_nil] at h1 ⊢
          omega
        obtain ⟨q, hq⟩ : ∃ q, r.Y + 1 + bused LO + bused (A.map RB.b) = q := ⟨_, rfl⟩
        have Hq := Lib.hid hq; have HTL := Lib.hid hTL; have HTl := Lib.hid hTl
        rw [hq]
        have hq0 : 1 ≤ q := by omega
        have hq1 : q ≤ 3000 := by omega
        clear hTL hTl hq
        go_wp2_with (at_builtin; refine (fun h => h trivial : (True → _) → _) ?_)
        intro _
        have HXa : Hid (Ext W0 (w3.alloc (.cells #[.int .i64 q] 3))) := Lib.hid (HX3.out.alloc _)
        have HTa : Hid ((w3.alloc (.cells #[.int .i64 q] 3)).ownsRow n0 3 1 (.slice ta (lo.length + i) tc) TL.length (TL.map (Value.int .i64))) := Lib.hid (by rw [HTl.out]; exact own_ext HT3.out ((Ext.refl w3).alloc _))
        refine wpList_append_I rfl _ _ rfl n0 (.slice ta (lo.length + i) tc) TL rfl HTa.out w3.heap.size q rfl ((Blk.new w3 _ _).cell 0) (by rw [HTl.out]; omega) (by have h1 := HXa.out.size; rw [Hn0.out] at h1; exact h1) ?_
        intro v2 w4 h1 hg1 hf1
        have hlen1 : (TL ++ [q]).length = lo.length + (i + 1) := by rw [List.length_append, HTl.out]; rfl
        rw [hlen1] at h1
        obtain ⟨f2, g2, rfl⟩ := own_slice h1
        have HT4 := Lib.hid h1
        have hk1 : Keeps (fun k => Value.ownBlock (.slice ta (lo.length + i) tc) = some k) w3 w4 := ((Keeps.refl _ w3).alloc _).grown hg1 fun k e => .inl e
        have HF4 := Lib.hid (ownsRow_keeps HF3.out fun k hk => hk1.block k (HF3.out.lt k hk).2 fun e => HN3.out k hk e)
        have HO4 := Lib.hid (ownsRow_keeps HO3.out fun k hk => hk1.block k (HO3.out.lt k hk).2 fun e => by
          obtain ⟨c1, h1⟩ := ownsRow_type HO3.out hk
          obtain ⟨c2, h2⟩ := ownsRow_type HT3.out e
          exact h1.ne h2 (by decide) rfl)
        have HY4 := Lib.hid (ownsRow_keeps HY3.out fun k hk => hk1.block k (HY3.out.lt k hk).2 fun e => by
          obtain ⟨c1, h1⟩ := ownsRow_type HY3.out hk
          obtain ⟨c2, h2⟩ := ownsRow_type HT3.out e
          exact h1.ne h2 (by decide) rfl)
        have HB4 := Lib.hid (hk1.blk HB3.out fun e => by
          obtain ⟨c2, h2⟩ := ownsRow_type HT3.out e
          exact HB3.out.ne h2 (by decide) rfl)
        have HX4 : Hid (Ext W0 w4) := Lib.hid (HX3.out.trans' hk1 fun k hk e => by have h1 := (HT3.out.lt k e).1; have h2 := Hn0.out; omega)
        have HN4 : Hid (∀ k, Value.ownBlock (.slice f1 (lo.length + (i + 1)) g1) = some k → Value.ownBlock (.slice f2 (lo.length + (i + 1)) g2) ≠ some k) := Lib.hid fun k hk e => by
          rcases hf1 k e with h | h
          · exact HN3.out k hk h
          · have h2 := (HF3.out.lt k hk).2
            simp at h; omega
        clear h1 hg1 hf1 hk1 hlen1 HXa HTa HF3 HT3 HO3 HY3 HB3 HX3 HN3
        have t1 : w4.cell? ⟨bt, 0 + 1, none⟩ = some (.int .i64 y.b.kind) := (HB4.out.cell 1).trans rfl
        have t2 : w4.cell? ⟨bt, 0 + 2, none⟩ = some (.slice (some ⟨y.arr, 0, none⟩) y.b.ws.length y.b.ws.length) := (HB4.out.cell 2).trans rfl
        go_wp2_with (at_builtin; refine (fun h => h trivial : (True → _) → _) ?_)
        intro _
        have HXa : Hid (Ext W0 (w4.alloc (.cells #[.int .i64 q, .int .i64 y.b.kind, .slice (some ⟨y.arr, 0, none⟩) y.b.ws.length y.b.ws.length] 49))) := Lib.hid (HX4.out.alloc _)
        have HOln : Hid ((lo ++ A).length = lo.length + A.length) := Lib.hid (List.length_append ..)
        have HOa : Hid (rowR (w4.alloc (.cells #[.int .i64 q, .int .i64 y.b.kind, .slice (some ⟨y.arr, 0, none⟩) y.b.ws.length y.b.ws.length] 49)) n0 (.slice qa (lo.length + A.length) qc) (shiftR (r.Y + 1) (lo ++ A))) := Lib.hid (rowR_ext HO4.out ((Ext.refl w4).alloc _))
        have HBl : Hid ((lo ++ A).length ≤ 2000) := Lib.hid (by rw [HOln.out]; have h1 := HAl.out; omega)
        refine wpList_append_R2 rfl _ _ rfl n0 (.slice qa (lo.length + A.length) qc) (shiftR (r.Y + 1) (lo ++ A)) rfl HOa.out w4.heap.size { y with b := { y.b with at_ := q } } rfl (Blk.new w4 _ _) (by rw [shiftR_length]; have := HBl.out; omega) (by have h1 := HXa.out.size; rw [Hn0.out] at h1; exact h1) ?_
        intro v3 w5 h1 hg1 hf1
        have e0 : shiftR (r.Y + 1) (lo ++ A) ++ [{ y with b := { y.b with at_ := q } }] = shiftR (r.Y + 1) (lo ++ (A ++ [y])) := by
          rw [← List.append_assoc, shiftR_append _ (lo ++ A), shiftR_one, List.map_append, HLO.out, bused_append, ← Int.add_assoc, Hq.out]
        have hlen1 : (shiftR (r.Y + 1) (lo ++ (A ++ [y]))).length = lo.length + (A ++ [y]).length := by rw [shiftR_length, List.length_append]
        rw [e0] at h1
        obtain ⟨p1, p2, rfl⟩ := rowR_len h1
        rw [hlen1] at h1 hf1 ⊢
        have HO5 := Lib.hid h1
        have hk1 : Keeps (fun k => Value.ownBlock (.slice qa (lo.length + A.length) qc) = some k) w4 w5 := ((Keeps.refl _ w4).alloc _).grown hg1 fun k e => .inl e
        have HF5 := Lib.hid (ownsRow_keeps HF4.out fun k hk => hk1.block k (HF4.out.lt k hk).2 fun e => by
          obtain ⟨c1, h1⟩ := ownsRow_type HF4.out hk
          obtain ⟨c2, h2⟩ := ownsRow_type HO4.out e
          exact h1.ne h2 (by decide) rfl)
        have HT5 := Lib.hid (ownsRow_keeps HT4.out fun k hk => hk1.block k (HT4.out.lt k hk).2 fun e => by
          obtain ⟨c1, h1⟩ := ownsRow_type HT4.out hk
          obtain ⟨c2, h2⟩ := ownsRow_type HO4.out e
          exact h1.ne h2 (by decide) rfl)
        have HY5 := Lib.hid (ownsRow_keeps HY4.out fun k hk => hk1.block k (HY4.out.lt k hk).2 fun e => HNo.out k e hk)
        have HX5 : Hid (Ext W0 w5) := Lib.hid (HX4.out.trans' hk1 fun k hk e => by have h1 := (HO4.out.lt k e).1; have h2 := Hn0.out; omega)
        have HNo5 : Hid (∀ k, Value.ownBlock (.slice p1 (lo.length + (A ++ [y]).length) p2) = some k → Value.ownBlock (.slice pa ([] : List RB).length pc) ≠ some k) := Lib.hid fun k hk e => by
          rcases hf1 k hk with h | h
          · exact HNo.out k h e
          · have h2 := (HY4.out.lt k e).2
            simp at h; omega
        clear h1 hg1 hf1 hk1 hlen1 e0 HXa HOa HF4 HO4 HY4 HB4 HX4 t1 t2
        go_wp2_with fail
        refine ⟨⟨i + 1, A ++ [y], [], f1, f2, p1, pa, g1, g2, p2, pc, by omega, by simp, ?_, rfl, by simp [bused], rfl, rfl, by simp, rfl, Lib.hid ?_, HF5, Lib.hid ?_, HO5, HY5, HN4, HNo5, HX5⟩, by simp only [intOf]; omega⟩
        · have e1 : r.Y + 1 + bused LO + bused ((A ++ [y]).map RB.b) = q + (y.b.ws.length + 1) := by
            rw [← Hq.out, List.map_append, bused_append]
            have : bused ([y].map RB.b) = (y.b.ws.length : Int) + 1 := by simp [bused]
            rw [this]; omega
          rw [e1]
        · rw [List.take_add_one, Hy.out]
          show fitsR R0 (ly.take i ++ [y]) = _
          rw [fitsR_snoc, HAB.out]
          rw [if_pos rfl, if_pos (show (y.b.ws.length : Int) + 1 ≤ R0 - bused (A.map RB.b) by have h1 := Hfit.out; have h2 := HRd.out; omega)]
        · have e2 : shift (r.Y + 1) (LO ++ (A ++ [y]).map RB.b) = shift (r.Y + 1) (LO ++ A.map RB.b) ++ [{ y.b with at_ := q }] := by
            rw [List.map_append (f := RB.b), ← List.append_assoc, shift_append _ (LO ++ A.map RB.b), bused_append, ← Int.add_assoc, Hq.out]; rfl
          have e1 : (shift (r.Y + 1) (LO ++ (A ++ [y]).map RB.b)).map Bk.at_ ++ (shift 1 (([] : List RB).map RB.b)).map Bk.at_ = TL ++ [q] := by
            rw [e2, ← HTL.out, List.map_append]
            simp [shift]
          rw [e1]; exact HT5.out
      · have Hfit := Lib.hid hfit
        go_big_region
        go_upto_region 24 with fail
        generalize hW2 : W1.drew = W2
        obtain ⟨hx2, hb2, hf2, ht2, ho2, hy2⟩ := HF24.out W2 (by rw [← hW2]; exact (Ext.refl W1).drew)
        have HX2b := Lib.hid hx2; have HB2 := Lib.hid hb2; have HF2 := Lib.hid hf2; have HT2 := Lib.hid ht2; have HO2 := Lib.hid ho2; have HY2 := Lib.hid hy2
        clear hx2 hb2 hf2 ht2 ho2 hy2 hW2 y0 o0 HF24
        have t0 : W2.cell? ⟨bt, 0, none⟩ = some (.int .i64 y.b.at_) := (HB2.out.cell 0).trans rfl
        go_wp2_with (at_builtin; refine (fun h => h trivial : (True → _) → _) ?_)
        intro _
        have HXa : Hid (Ext W0 (W2.alloc (.cells #[.int .i64 y.b.at_] 3))) := Lib.hid (HX2b.out.alloc _)
        have HFa : Hid ((W2.alloc (.cells #[.int .i64 y.b.at_] 3)).ownsRow n0 3 1 (.slice fa (lo.length + i) fc) (LO.map Bk.at_ ++ (LY.take i).map Bk.at_).length ((LO.map Bk.at_ ++ (LY.take i).map Bk.at_).map (Value.int .i64))) := Lib.hid (by rw [HlF.out]; exact own_ext HF2.out ((Ext.refl W2).alloc (.cells #[.int .i64 y.b.at_] 3)))
        refine wpList_append_I rfl _ _ rfl n0 (.slice fa (lo.length + i) fc) (LO.map Bk.at_ ++ (LY.take i).map Bk.at_) rfl HFa.out W2.heap.size y.b.at_ rfl ((Blk.new W2 _ _).cell 0) (by rw [HlF.out]; omega) (by have h1 := HXa.out.size; rw [Hn0.out] at h1; exact h1) ?_
        intro v1 w3 h1 hg1 hf1
        have hlen1 : ((LO.map Bk.at_ ++ (LY.take i).map Bk.at_) ++ [y.b.at_]).length = lo.length + (i + 1) := by rw [List.length_append, HlF.out]; rfl
        rw [hlen1, He1.out] at h1
        obtain ⟨f1, g1, rfl⟩ := own_slice h1
        have HF3 := Lib.hid h1
        have hk1 : Keeps (fun k => Value.ownBlock (.slice fa (lo.length + i) fc) = some k) W2 w3 := ((Keeps.refl _ W2).alloc _).grown hg1 fun k e => .inl e
        have HT3 := Lib.hid (ownsRow_keeps HT2.out fun k hk => hk1.block k (HT2.out.lt k hk).2 fun e => HNe.out k e hk)
        have HO3 := Lib.hid (ownsRow_keeps HO2.out fun k hk => hk1.block k (HO2.out.lt k hk).2 fun e => by
          obtain ⟨c1, h1⟩ := ownsRow_type HO2.out hk
          obtain ⟨c2, h2⟩ := ownsRow_type HF2.out e
          exact h1.ne h2 (by decide) rfl)
        have HY3 := Lib.hid (ownsRow_keeps HY2.out fun k hk => hk1.block k (HY2.out.lt k hk).2 fun e => by
          obtain ⟨c1, h1⟩ := ownsRow_type HY2.out hk
          obtain ⟨c2, h2⟩ := ownsRow_type HF2.out e
          exact h1.ne h2 (by decide) rfl)
        have HB3 := Lib.hid (hk1.blk HB2.out fun e => by
          obtain ⟨c2, h2⟩ := ownsRow_type HF2.out e
          exact HB2.out.ne h2 (by decide) rfl)
        have HX3 : Hid (Ext W0 w3) := Lib.hid (HX2b.out.trans' hk1 fun k hk e => by have h1 := (HF2.out.lt k e).1; have h2 := Hn0.out; omega)
        have HN3 : Hid (∀ k, Value.ownBlock (.slice f1 (lo.length + (i + 1)) g1) = some k → Value.ownBlock (.slice ta (lo.length + i) tc) ≠ some k) := Lib.hid fun k hk e => by
          rcases hf1 k hk with h | h
          · exact HNe.out k h e
          · have h2 := (HT2.out.lt k e).2
            simp at h; omega
        clear h1 hg1 hf1 hk1 hlen1 HXa HFa HF2 HT2 HO2 HY2 HB2 HX2b t0
        obtain ⟨TL, hTL⟩ : ∃ TL, (shift (r.Y + 1) (LO ++ A.map RB.b)).map Bk.at_ ++ (shift 1 ((([] : List RB)).map RB.b)).map Bk.at_ = TL := ⟨_, rfl⟩
        rw [hTL] at HT3
        have hTl : TL.length = lo.length + i := by
          have h1 := congrArg List.length HABl.out
          have h2 := HLOl.out
          rw [← hTL]
          simp only [List.length_append, List.length_map, shift_length, List.length_take, List.length_cons, List.length_nil] at h1 ⊢
          omega
        obtain ⟨q, hq⟩ : ∃ q, 1 + bused [] = q := ⟨_, rfl⟩
        have Hq := Lib.hid hq; have HTL := Lib.hid hTL; have HTl := Lib.hid hTl
        try rw [hq]
        have hq0 : 1 ≤ q := by have hbz : bused ([] : List Bk) = 0 := by simp [bused]
                               omega
        have hq1 : q ≤ 1001 := by have hbz : bused ([] : List Bk) = 0 := by simp [bused]
                                  omega
        clear hTL hTl hq
        go_wp2_with (at_builtin; refine (fun h => h trivial : (True → _) → _) ?_)
        intro _
        have HXa : Hid (Ext W0 (w3.alloc (.cells #[.int .i64 q] 3))) := Lib.hid (HX3.out.alloc _)
        have HTa : Hid ((w3.alloc (.cells #[.int .i64 q] 3)).ownsRow n0 3 1 (.slice ta (lo.length + i) tc) TL.length (TL.map (Value.int .i64))) := Lib.hid (by rw [HTl.out]; exact own_ext HT3.out ((Ext.refl w3).alloc _))
        refine wpList_append_I rfl _ _ rfl n0 (.slice ta (lo.length + i) tc) TL rfl HTa.out w3.heap.size q rfl ((Blk.new w3 _ _).cell 0) (by rw [HTl.out]; omega) (by have h1 := HXa.out.size; rw [Hn0.out] at h1; exact h1) ?_
        intro v2 w4 h1 hg1 hf1
        have hlen1 : (TL ++ [q]).length = lo.length + (i + 1) := by rw [List.length_append, HTl.out]; rfl
        rw [hlen1] at h1
        obtain ⟨f2, g2, rfl⟩ := own_slice h1
        have HT4 := Lib.hid h1
        have hk1 : Keeps (fun k => Value.ownBlock (.slice ta (lo.length + i) tc) = some k) w3 w4 := ((Keeps.refl _ w3).alloc _).grown hg1 fun k e => .inl e
        have HF4 := Lib.hid (ownsRow_keeps HF3.out fun k hk => hk1.block k (HF3.out.lt k hk).2 fun e => HN3.out k hk e)
        have HO4 := Lib.hid (ownsRow_keeps HO3.out fun k hk => hk1.block k (HO3.out.lt k hk).2 fun e => by
          obtain ⟨c1, h1⟩ := ownsRow_type HO3.out hk
          obtain ⟨c2, h2⟩ := ownsRow_type HT3.out e
          exact h1.ne h2 (by decide) rfl)
        have HY4 := Lib.hid (ownsRow_keeps HY3.out fun k hk => hk1.block k (HY3.out.lt k hk).2 fun e => by
          obtain ⟨c1, h1⟩ := ownsRow_type HY3.out hk
          obtain ⟨c2, h2⟩ := ownsRow_type HT3.out e
          exact h1.ne h2 (by decide) rfl)
        have HB4 := Lib.hid (hk1.blk HB3.out fun e => by
          obtain ⟨c2, h2⟩ := ownsRow_type HT3.out e
          exact HB3.out.ne h2 (by decide) rfl)
        have HX4 : Hid (Ext W0 w4) := Lib.hid (HX3.out.trans' hk1 fun k hk e => by have h1 := (HT3.out.lt k e).1; have h2 := Hn0.out; omega)
        have HN4 : Hid (∀ k, Value.ownBlock (.slice f1 (lo.length + (i + 1)) g1) = some k → Value.ownBlock (.slice f2 (lo.length + (i + 1)) g2) ≠ some k) := Lib.hid fun k hk e => by
          rcases hf1 k e with h | h
          · exact HN3.out k hk h
          · have h2 := (HF3.out.lt k hk).2
            simp at h; omega
        clear h1 hg1 hf1 hk1 hlen1 HXa HTa HF3 HT3 HO3 HY3 HB3 HX3 HN3
        have t1 : w4.cell? ⟨bt, 0 + 1, none⟩ = some (.int .i64 y.b.kind) := (HB4.out.cell 1).trans rfl
        have t2 : w4.cell? ⟨bt, 0 + 2, none⟩ = some (.slice (some ⟨y.arr, 0, none⟩) y.b.ws.length y.b.ws.length) := (HB4.out.cell 2).trans rfl
        go_wp2_with (at_builtin; refine (fun h => h trivial : (True → _) → _) ?_)
        intro _
        have HXa : Hid (Ext W0 (w4.alloc (.cells #[.int .i64 q, .int .i64 y.b.kind, .slice (some ⟨y.arr, 0, none⟩) y.b.ws.length y.b.ws.length] 49))) := Lib.hid (HX4.out.alloc _)
        have HYa : Hid (rowR (w4.alloc (.cells #[.int .i64 q, .int .i64 y.b.kind, .slice (some ⟨y.arr, 0, none⟩) y.b.ws.length y.b.ws.length] 49)) n0 (.slice pa (([] : List RB)).length pc) (shiftR 1 (([] : List RB)))) := Lib.hid (rowR_ext HY4.out ((Ext.refl w4).alloc _))
        have HBl : Hid ((([] : List RB)).length ≤ 1000) := Lib.hid HAl.out.2
        refine wpList_append_R2 rfl _ _ rfl n0 (.slice pa (([] : List RB)).length pc) (shiftR 1 (([] : List RB))) rfl HYa.out w4.heap.size { y with b := { y.b with at_ := q } } rfl (Blk.new w4 _ _) (by rw [shiftR_length]; have := HBl.out; omega) (by have h1 := HXa.out.size; rw [Hn0.out] at h1; exact h1) ?_
        intro v3 w5 h1 hg1 hf1
        have e0 : shiftR 1 (([] : List RB)) ++ [{ y with b := { y.b with at_ := q } }] = shiftR 1 ((([] : List RB)) ++ [y]) := by
          rw [shiftR_append, shiftR_one, ← Hq.out]; try rfl
        have hlen1 : (shiftR 1 ((([] : List RB)) ++ [y])).length = ((([] : List RB)) ++ [y]).length := shiftR_length _ _
        rw [e0] at h1
        obtain ⟨p1, p2, rfl⟩ := rowR_len h1
        rw [hlen1] at h1 hf1 ⊢
        have HY5 := Lib.hid h1
        have hk1 : Keeps (fun k => Value.ownBlock (.slice pa (([] : List RB)).length pc) = some k) w4 w5 := ((Keeps.refl _ w4).alloc _).grown hg1 fun k e => .inl e
        have HF5 := Lib.hid (ownsRow_keeps HF4.out fun k hk => hk1.block k (HF4.out.lt k hk).2 fun e => by
          obtain ⟨c1, h1⟩ := ownsRow_type HF4.out hk
          obtain ⟨c2, h2⟩ := ownsRow_type HY4.out e
          exact h1.ne h2 (by decide) rfl)
        have HT5 := Lib.hid (ownsRow_keeps HT4.out fun k hk => hk1.block k (HT4.out.lt k hk).2 fun e => by
          obtain ⟨c1, h1⟩ := ownsRow_type HT4.out hk
          obtain ⟨c2, h2⟩ := ownsRow_type HY4.out e
          exact h1.ne h2 (by decide) rfl)
        have HO5 := Lib.hid (ownsRow_keeps HO4.out fun k hk => hk1.block k (HO4.out.lt k hk).2 fun e => HNo.out k hk e)
        have HX5 : Hid (Ext W0 w5) := Lib.hid (HX4.out.trans' hk1 fun k hk e => by have h1 := (HY4.out.lt k e).1; have h2 := Hn0.out; omega)
        have HNo5 : Hid (∀ k, Value.ownBlock (.slice qa (lo.length + A.length) qc) = some k → Value.ownBlock (.slice p1 ((([] : List RB)) ++ [y]).length p2) ≠ some k) := Lib.hid fun k hk e => by
          rcases hf1 k e with h | h
          · exact HNo.out k hk h
          · have h2 := (HO4.out.lt k hk).2
            simp at h; omega
        clear h1 hg1 hf1 hk1 hlen1 e0 HXa HYa HF4 HO4 HY4 HB4 HX4 t1 t2
        go_wp2_with fail
        refine ⟨⟨i + 1, A, (([] : List RB)) ++ [y], f1, f2, qa, p1, g1, g2, qc, p2, by omega, by simp, rfl, by simp, ?_, rfl, rfl, rfl, by simp, Lib.hid ?_, HF5, Lib.hid ?_, HO5, HY5, HN4, HNo5, HX5⟩, by simp only [intOf]; omega⟩
        · have e1 : 1 + bused (((([] : List RB)) ++ [y]).map RB.b) = q + (y.b.ws.length + 1) := by
            rw [← Hq.out, List.map_append, bused_append]
            have : bused ([y].map RB.b) = (y.b.ws.length : Int) + 1 := by simp [bused]
            rw [this, Int.add_assoc]; try rfl
          rw [e1]
        · rw [List.take_add_one, Hy.out]
          show fitsR R0 (ly.take i ++ [y]) = _
          rw [fitsR_snoc, HAB.out]
          rw [if_pos rfl, if_neg (show ¬ ((y.b.ws.length : Int) + 1 ≤ R0 - bused (A.map RB.b)) by have h1 := Hfit.out; have h2 := HRd.out; omega)]; rfl
        · have e1 : (shift (r.Y + 1) (LO ++ A.map RB.b)).map Bk.at_ ++ (shift 1 (((([] : List RB)) ++ [y]).map RB.b)).map Bk.at_ = TL ++ [q] := by
            have e2 : shift 1 (((([] : List RB)) ++ [y]).map RB.b) = shift 1 ((([] : List RB)).map RB.b) ++ [{ y.b with at_ := q }] := by
              rw [List.map_append (f := RB.b), shift_append, ← Hq.out]; rfl
            rw [e2, List.map_append (l₁ := shift 1 ((([] : List RB)).map RB.b)), ← List.append_assoc, HTL.out]; rfl
          rw [e1]; exact HT5.out
  have hin : i = ly.length := by omega
  subst hin
  have eL : LY.take ly.length = LY := by rw [← HLYl.out, List.take_length]
  rw [eL] at HFr
  rw [List.take_length] at HAB
  clear hlt hi eL
  have HXe := Lib.hid (HX0.out.trans HXp.out)
  have HFitp := fitsR_map R0 ly
  rw [HAB.out, HLY.out] at HFitp
  have HFit : Hid (r.log.fit roots = (A.map RB.b, B.map RB.b)) := Lib.hid (by
    unfold LH.fit
    show fits (r.O - bused (r.log.keptO roots)) (r.log.keptY roots) = _
    rw [← Hlo.out, ← Hly.out, HR0.out]
    exact Prod.ext HFitp.1.symm HFitp.2.symm)
  have HnO : Hid (r.log.newO roots = shift (r.Y + 1) (LO ++ A.map RB.b)) := Lib.hid (by unfold LH.newO; rw [← Hlo.out, HFit.out]; rfl)
  have HnY : Hid (r.log.newY roots = shift 1 (B.map RB.b)) := Lib.hid (by unfold LH.newY; rw [HFit.out])
  obtain ⟨CL, hCL⟩ : ∃ CL, LO ++ A.map RB.b ++ B.map RB.b = CL := ⟨_, rfl⟩
  obtain ⟨NL, hNL⟩ : ∃ NL, shift (r.Y + 1) (LO ++ A.map RB.b) ++ shift 1 (B.map RB.b) = NL := ⟨_, rfl⟩
  have HCL := Lib.hid hCL; have HNL := Lib.hid hNL
  have HmF : Hid (r.log.majorF roots = mvTo CL NL) := Lib.hid (by unfold LH.majorF; rw [HnO.out, HnY.out, ← Hlo.out, HFit.out, HCL.out, HNL.out])
  have Hne0 : Hid (∀ b ∈ CL, b.at_ ≠ 0) := Lib.hid (by
    have h1 := kept_ne H.out.ok roots
    rw [← Hlo.out, HFit.out, HCL.out] at h1; exact h1)
  have HABl : Hid (A ++ B = ly) := Lib.hid (by have h1 := fitsR_append R0 ly; rw [HAB.out] at h1; exact h1)
  have hcl : CL.length = lo.length + ly.length := by
    have h1 := congrArg List.length HABl.out; have h2 := HLOl.out
    rw [← hCL]; simp only [List.length_append, List.length_map] at h1 ⊢; omega
  have hnl : NL.length = lo.length + ly.length := by
    have h1 := congrArg List.length HABl.out; have h2 := HLOl.out
    rw [← hNL]; simp only [List.length_append, List.length_map, shift_length] at h1 ⊢; omega
  have hfl : (CL.map Bk.at_).length = lo.length + ly.length := by rw [List.length_map]; exact hcl
  have htl : (NL.map Bk.at_).length = lo.length + ly.length := by rw [List.length_map]; exact hnl
  have hFr : wr.ownsRow n0 3 1 (.slice fa (CL.map Bk.at_).length fc) (CL.map Bk.at_).length ((CL.map Bk.at_).map (Value.int .i64)) := by
    have h1 := HFr.out
    have e1 : LO.map Bk.at_ ++ LY.map Bk.at_ = CL.map Bk.at_ := by
      rw [← HCL.out, List.append_assoc, List.map_append (l₁ := LO), ← List.map_append (f := RB.b), HABl.out, HLY.out]
    rw [e1] at h1; rw [hfl]; exact h1
  have hTo : wr.ownsRow n0 3 1 (.slice ta (NL.map Bk.at_).length tc) (NL.map Bk.at_).length ((NL.map Bk.at_).map (Value.int .i64)) := by
    have h1 := HTo.out
    rw [← List.map_append, HNL.out] at h1; rw [htl]; exact h1
  have hAll : (lo ++ A).length = lo.length + A.length := List.length_append ..
  have hABL := congrArg List.length HABl.out
  rw [List.length_append] at hABL
  have hmA : ∀ y ∈ lo ++ A, y ∈ r.all := fun y hy => by
    rcases List.mem_append.1 hy with hy | hy
    · exact List.mem_append_right _ (Hlos.out y hy)
    · exact List.mem_append_left _ (Hlys.out y (by rw [← HABl.out]; exact List.mem_append_left _ hy))
  have hmB : ∀ y ∈ B, y ∈ r.all := fun y hy => List.mem_append_left _ (Hlys.out y (by rw [← HABl.out]; exact List.mem_append_right _ hy))
  have hwA : wosR wr (shiftR (r.Y + 1) (lo ++ A)) := wosR_shift fun y hy => HXe.out.blk (H.out.wo y (hmA y hy)) id
  have hwB : Hid (wosR wr (shiftR 1 B)) := Lib.hid (wosR_shift fun y hy => HXe.out.blk (H.out.wo y (hmB y hy)) id)
  have hrdO : RdB wr (.slice qa (lo.length + A.length) qc) ((shiftR (r.Y + 1) (lo ++ A)).map RB.b) := rdB_of_rowR HOl.out hwA
  have HCo := Lib.hid (Rblocks_any hFr hTo (by rw [hfl, htl]) (by rw [hfl]; omega) hrdO (by rw [List.length_map, shiftR_length, hAll]; omega) (fun b hb => by
    obtain ⟨y, hy, rfl⟩ := List.mem_map.1 hb
    obtain ⟨z, hz, _, e⟩ := shiftR_mem hy
    rw [e]
    have := H.out.len (b := z.b) (by rw [RH.log_all]; exact List.mem_map_of_mem (hmA z hz)); omega))
  rw [hfl, htl] at HCo
  have HF2 := Lib.hid hFr; have HT2 := Lib.hid hTo
  have Hfl := Lib.hid hfl; have Htl := Lib.hid htl; have HmB := Lib.hid hmB
  clear hCL hNL hcl hnl hfl htl hFr hTo hmA hwA hrdO HFr HTo HFitp hmB
  go_wp2_with fail
  refine HCo.out.mono ?_
  rintro e w3 ⟨vo, lO, rfl, hlO, hfO, hx3⟩
  have hK3 : Keeps (fun k => k = r.rp) w w3 := (HXe.out.mono fun _ _ h => h.elim : Keeps (fun k => k = r.rp) w wr).trans (hx3.mono fun _ _ h => h.elim)
  have HBr3 : Hid (Blk w3 r.rp r.cells 69) := Lib.hid (hx3.blk (HXe.out.blk H.out.blk id) id)
  have HF3 := Lib.hid (own_ext HF2.out hx3)
  have HT3 := Lib.hid (own_ext HT2.out hx3)
  have HY3 := Lib.hid (rowR_ext HYl.out hx3)
  have HwB3 : Hid (wosR w3 (shiftR 1 B)) := Lib.hid fun y hy => hx3.blk (hwB.out y hy) id
  have HK3 := Lib.hid hK3; have HlO := Lib.hid hlO; have HfO := Lib.hid hfO
  have Hwr : Hid (n0 ≤ wr.heap.size) := Lib.hid (by rw [← Hn0.out]; exact HXp.out.size)
  obtain ⟨nr, hnr⟩ : ∃ nr, wr.heap.size = nr := ⟨_, rfl⟩
  rw [hnr] at HfO Hwr
  have Hs3 : Hid (nr ≤ w3.heap.size) := Lib.hid (by rw [← hnr]; exact hx3.size)
  obtain ⟨va, vc, rfl⟩ := rowR_len hfO.row
  clear hlO hfO hx3 hK3 hnr HCo HF2 HT2 HYl HOl hwB HXp HXe HNe HNo
  have c3 : w3.cell? ⟨r.rp, 3, none⟩ = some r.oa := (HBr3.out.cell 3).trans rfl
  have f3 := HBr3.out.frozen 3
  go_upto_region 33 with fail
  obtain ⟨W4, hW4⟩ : ∃ W4, w3.setCell ⟨r.rp, 3, none⟩ (.slice va lO.length vc) = W4 := ⟨_, rfl⟩
  have hne3 : ∀ {b : Nat} {e : TypeId} {size : Nat} {v : Value} {n : Nat} {xs : List Value}, 69 ≠ e → w3.ownsRow b e size v n xs → W4.ownsRow b e size v n xs := fun hT h => by
    rw [← hW4]; exact ownsRow_set h (a := ⟨r.rp, 3, none⟩) HBr3.out hT _
  have hwo3 : ∀ {k : Nat} {c : Array Value} {t : TypeId}, t ≠ 69 → Blk w3 k c t → Blk W4 k c t := fun hT h => by
    rw [← hW4]; exact h.far (a := ⟨r.rp, 3, none⟩) (h.ne HBr3.out hT) _
  have HBr4 : Hid (Blk W4 r.rp ({ r with oa := .slice va lO.length vc } : RH).cells 69) := Lib.hid (by
    rw [← hW4]; have := HBr3.out.set 3 (.slice va lO.length vc); simpa [RH.cells] using this)
  have HK4 : Hid (Keeps (fun k => k = r.rp) w W4) := Lib.hid (by rw [← hW4]; exact HK3.out.setCell (p := ⟨r.rp, 3, none⟩) (.inl rfl) _)
  have Hs4 : Hid (nr ≤ W4.heap.size) := Lib.hid (by rw [← hW4]; simpa using Hs3.out)
  have HF4 := Lib.hid (hne3 (by decide) HF3.out)
  have HT4 := Lib.hid (hne3 (by decide) HT3.out)
  have HfO4 : Hid (FreshRow nr W4 (.slice va lO.length vc) lO) := Lib.hid ⟨hne3 (by decide) HfO.out.row, fun y hy => hwo3 (by decide) (HfO.out.wo y hy), HfO.out.nd, HfO.out.low⟩
  have hrdY : RdB W4 (.slice pa B.length pc) ((shiftR 1 B).map RB.b) := rdB_of_rowR (hne3 (by decide) HY3.out) fun y hy => hwo3 (by decide) (HwB3.out y hy)
  have hF4 := HF4.out; have hT4 := HT4.out
  have HCy := Lib.hid (Rblocks_any hF4 hT4 (by rw [Hfl.out, Htl.out]) (by rw [Hfl.out]; omega) hrdY (by rw [List.length_map, shiftR_length]; omega) (fun b hb => by
    obtain ⟨y, hy, rfl⟩ := List.mem_map.1 hb
    obtain ⟨z, hz, _, e⟩ := shiftR_mem hy
    rw [e]
    have := H.out.len (b := z.b) (by rw [RH.log_all]; exact List.mem_map_of_mem (HmB.out z hz)); omega))
  rw [Hfl.out, Htl.out] at HCy
  rw [hW4]
  clear hW4 hne3 hwo3 hrdY hF4 hT4 HF3 HT3 HY3 HwB3 HfO HBr3 HK3 c3 f3
  go_wp2_with fail
  refine HCy.out.mono ?_
  rintro e w5 ⟨vo, lY, rfl, hlY, hfY, hx5⟩
  have HBr5 : Hid (Blk w5 r.rp ({ r with oa := .slice va lO.length vc } : RH).cells 69) := Lib.hid (hx5.blk HBr4.out id)
  have HF5 := Lib.hid (own_ext HF4.out hx5)
  have HT5 := Lib.hid (own_ext HT4.out hx5)
  have HK5 : Hid (Keeps (fun k => k = r.rp) w w5) := Lib.hid (HK4.out.trans (hx5.mono fun _ _ h => h.elim))
  have HfO5 := Lib.hid (HfO4.out.keeps hx5)
  have HlY := Lib.hid hlY
  have Hnw : Hid (nr ≤ W4.heap.size ∧ n0 ≤ nr) := Lib.hid ⟨Hs4.out, Hwr.out⟩
  have Hd5 : Hid ((∀ k, Value.ownBlock vo = some k → Value.ownBlock (.slice va lO.length vc) ≠ some k) ∧ ∀ y ∈ lY, ∀ z ∈ lO, y.arr ≠ z.arr) := Lib.hid ⟨fun k hk e => by
    have h1 := (hfY.row.lt k hk).1; have h2 := (HfO4.out.row.lt k e).2; omega, fun y hy z hz e => by
    have h1 := hfY.low y hy; have h2 := (HfO4.out.wo z hz).lt; omega⟩
  have HfY5 := Lib.hid (hfY.base Hnw.out.1)
  have Hs5 : Hid (nr ≤ w5.heap.size) := Lib.hid (Nat.le_trans Hs4.out hx5.size)
  obtain ⟨ja, jc, rfl⟩ := rowR_len hfY.row
  clear hlY hfY hx5 HCy HF4 HT4 HfO4 HBr4 HK4
  have c2 : w5.cell? ⟨r.rp, 2, none⟩ = some r.ya := (HBr5.out.cell 2).trans rfl
  have c4 : w5.cell? ⟨r.rp, 4, none⟩ = some r.ma := (HBr5.out.cell 4).trans rfl
  have f2 := HBr5.out.frozen 2
  have f4 := HBr5.out.frozen 4
  go_upto_region 35 with fail
  obtain ⟨W6, hW6⟩ : ∃ W6, (w5.setCell ⟨r.rp, 2, none⟩ (.slice ja lY.length jc)).setCell ⟨r.rp, 4, none⟩ (.slice none 0 0) = W6 := ⟨_, rfl⟩
  have hb1 := HBr5.out.set 2 (.slice ja lY.length jc)
  have hb2 := hb1.set 4 (.slice none 0 0)
  have hne5 : ∀ {b : Nat} {e : TypeId} {size : Nat} {v : Value} {n : Nat} {xs : List Value}, 69 ≠ e → w5.ownsRow b e size v n xs → W6.ownsRow b e size v n xs := fun hT h => by
    rw [← hW6]; exact ownsRow_set (ownsRow_set h (a := ⟨r.rp, 2, none⟩) HBr5.out hT _) (a := ⟨r.rp, 4, none⟩) hb1 hT _
  have hwo5 : ∀ {k : Nat} {c : Array Value} {t : TypeId}, t ≠ 69 → Blk w5 k c t → Blk W6 k c t := fun hT h => by
    rw [← hW6]; exact (h.far (a := ⟨r.rp, 2, none⟩) (h.ne HBr5.out hT) _).far (a := ⟨r.rp, 4, none⟩) (h.ne HBr5.out hT) _
  have HK6 : Hid (Keeps (fun k => k = r.rp) w W6) := Lib.hid (by rw [← hW6]; exact (HK5.out.setCell (p := ⟨r.rp, 2, none⟩) (.inl rfl) _).setCell (p := ⟨r.rp, 4, none⟩) (.inl rfl) _)
  have HF6 := Lib.hid (hne5 (by decide) HF5.out)
  have HT6 := Lib.hid (hne5 (by decide) HT5.out)
  have HfO6 : Hid (FreshRow nr W6 (.slice va lO.length vc) lO) := Lib.hid ⟨hne5 (by decide) HfO5.out.row, fun y hy => hwo5 (by decide) (HfO5.out.wo y hy), HfO5.out.nd, HfO5.out.low⟩
  have HfY6 : Hid (FreshRow nr W6 (.slice ja lY.length jc) lY) := Lib.hid ⟨hne5 (by decide) HfY5.out.row, fun y hy => hwo5 (by decide) (HfY5.out.wo y hy), HfY5.out.nd, HfY5.out.low⟩
  obtain ⟨R1, hR1⟩ : ∃ R1 : RH, ({ r with ya := .slice ja lY.length jc, oa := .slice va lO.length vc, ma := .slice none 0 0, yb := lY, ob := lO, M := [] } : RH) = R1 := ⟨_, rfl⟩
  have HR1 := Lib.hid hR1
  have HBr6 : Hid (Blk W6 r.rp R1.cells 69) := Lib.hid (by
    rw [← hW6, ← hR1]; have := hb2; simpa [RH.cells] using this)
  have hlOb : lO.map RB.b = (r.log.newO roots).map (mvB (r.log.majorF roots)) := by
    rw [HlO.out, HnO.out, HmF.out, shiftR_map, List.map_append, HLO.out]
    exact List.map_congr_left fun b _ => movB_mvB Hne0.out b
  have hlYb : lY.map RB.b = (r.log.newY roots).map (mvB (r.log.majorF roots)) := by
    rw [HlY.out, HnY.out, HmF.out, shiftR_map]
    exact List.map_congr_left fun b _ => movB_mvB Hne0.out b
  have hmaj1 : (r.log.major roots).1 = ⟨r.Y, r.O, lY.map RB.b, lO.map RB.b, (r.log.major roots).1.R⟩ := by
    rw [hlOb, hlYb]; unfold LH.major; rw [if_neg Hb.out]; rfl
  have hmaj2 : (r.log.major roots).2 = (roots.map (movedW (CL.map Bk.at_) (NL.map Bk.at_)), 0) := by
    have h1 : roots.map (movedW (CL.map Bk.at_) (NL.map Bk.at_)) = roots.map (mvW (r.log.majorF roots)) := by
      rw [HmF.out]; exact List.map_congr_left fun u _ => movedW_mvW Hne0.out u
    rw [h1]; unfold LH.major; rw [if_neg Hb.out]
  have Hmaj1 := Lib.hid hmaj1; have Hmaj2 := Lib.hid hmaj2
  have HRm : Hid (∀ k, k ∈ (r.log.major roots).1.R ↔ remL r.log (lO.map RB.b) k) := Lib.hid fun k => by
    have h1 := major_R H.out.ok HI.out HOk.out Hb.out k
    rw [h1, hmaj1]
  have HokR : Hid (LOk R1.log) := Lib.hid (by
    have h1 := HOk.out
    rw [hmaj1] at h1
    rw [← hR1]
    exact ⟨h1.Y0, h1.O0, h1.uy, h1.uo, h1.dy, h1.do_⟩)
  have hnb : base ≤ nr := by have h1 := Hnw.out.2; have h2 := Hwn.out; have h3 := Hbs.out; omega
  have HRr : Hid (RRep W6 base R1) := Lib.hid (by
    rw [← hR1] at HBr6 HokR ⊢
    exact RRep.mk2 (n := nr) HBr6.out (H.out.base_ r.rp (.inl rfl)) hnb HfY6.out HfO6.out (World.ownsRow_nil _ _ _ _) Hd5.out.1 Hd5.out.2 List.Pairwise.nil (fun k hk => by simp at hk) HokR.out H.out.Y1 H.out.O1)
  have HF7 := HF6; have HT7 := HT6
  have HlOl : Hid (lO.length ≤ 1000) := Lib.hid (by
    have h1 := HRr.out.olen; rw [← hR1] at h1; simpa [RH.log] using h1)
  have HlOn : lO.length ≤ 1000 := HlOl.out
  have Hn6 : Hid (nr ≤ W6.heap.size) := Lib.hid (by have h1 := Hnw.out.1; have h2 := HK6.out.size; rw [← hW6]; simpa using Nat.le_trans Hs5.out (Nat.le_refl _))
  have HRs : Hid (RRep W6 base ({ r with ya := .slice ja lY.length jc, oa := .slice va lO.length vc, ma := (.slice none 0 0), yb := lY, ob := lO, M := ([] : List Int) } : RH)) := Lib.hid (by have h1 := HRr.out; rw [← hR1] at h1; exact h1)
  rw [hW6]
  clear hb1 hb2 hne5 hwo5 hR1 hlOb hlYb hmaj1 hmaj2 hW6 HBr6 HRr HokR HF5 HT5 HBr5 HK5 HfO5 HfY5 c2 c4 f2 f4 HF7 HT7 hnb hABL hAll
  go_wp2_with fail
  go_loopw [20] (fun iv wr => ∃ (i : Nat) (mv : Value) (M : List Int), i ≤ lO.length ∧ iv = .int .i64 i ∧ Hid (RRep wr base ({ r with ya := .slice ja lY.length jc, oa := .slice va lO.length vc, ma := mv, yb := lY, ob := lO, M := M } : RH)) ∧ Hid (∀ k, k ∈ M ↔ remL r.log ((lO.map RB.b).take i) k) ∧ Hid (Keeps (fun k => k = r.rp) W6 wr) ∧ Hid (∀ k, mv.ownBlock = some k → W6.heap.size ≤ k)) (fun iv wr => lO.length - (intOf iv).toNat)
  case atStart => exact ⟨0, _, [], Nat.zero_le _, rfl, HRs, Lib.hid (by simp [remL]), Lib.hid (Keeps.refl _ _), Lib.hid fun k hk => by simp [Value.ownBlock] at hk⟩
  case round =>
  obtain ⟨i, mv, M, hi, rfl, HR, HM1, HK, HN⟩ := hrel
  by_cases hlt : i < lO.length
  · obtain ⟨y, hy⟩ : ∃ y, lO[i]? = some y := ⟨_, List.getElem?_eq_getElem hlt⟩
    have Hy := Lib.hid hy
    have HyL : Hid ((lO.map RB.b)[i]? = some y.b) := Lib.hid (by rw [List.getElem?_map, hy]; rfl)
    obtain ⟨g, c, e, -⟩ := rowR_at HR.out.orow hy
    injection e with e e2 e3; subst e; clear e2 e3
    have HS0 : ∀ V mv M, RRep V base ({ r with ya := .slice ja lY.length jc, oa := .slice (some ⟨g, 0, none⟩) lO.length vc, ma := mv, yb := lY, ob := lO, M := M } : RH) → Hid (V.cell? ⟨r.rp, 3, none⟩ = some (.slice (some ⟨g, 0, none⟩) lO.length vc) ∧ V.cell? ⟨r.rp, 4, none⟩ = some mv ∧ V.cell? ⟨g, i * 3, none⟩ = some (.int .i64 y.b.at_) ∧ V.cell? ⟨g, i * 3 + 2, none⟩ = some (.slice (some ⟨y.arr, 0, none⟩) y.b.ws.length y.b.ws.length)) := fun V mv M hV => by
      obtain ⟨g2, c2, e, h0, h1, h2⟩ := rowR_at hV.orow hy
      injection e with e _ _; injection e with e; injection e with e _ _; subst e
      exact Lib.hid ⟨hV.c3, hV.c4, h0, h2⟩
    have Hyl : Hid (y.b.ws.length ≤ 1000) := Lib.hid (HR.out.len (by rw [RH.log_all]; exact List.mem_map_of_mem (List.mem_append_right _ (List.mem_of_getElem? hy))))
    clear hy
    obtain ⟨a3, a4, a0, a2⟩ := (HS0 _ _ _ HR.out).out
    have hyl : y.b.ws.length ≤ 1000 := Hyl.out
    go_wp2_with fail
    clear a3 a4 a0 a2
    go_loopw [21] (fun jv wr => ∃ (j : Nat) (mv : Value) (M : List Int), j ≤ y.b.ws.length ∧ jv = .int .i64 j ∧ Hid (RRep wr base ({ r with ya := .slice ja lY.length jc, oa := .slice (some ⟨g, 0, none⟩) lO.length vc, ma := mv, yb := lY, ob := lO, M := M } : RH)) ∧ Hid (∀ k, k ∈ M ↔ remL r.log ((lO.map RB.b).take i) k ∨ (k = y.b.at_ ∧ (y.b.ws.take j).any r.log.yg = true)) ∧ Hid (Keeps (fun k => k = r.rp) W6 wr) ∧ Hid (∀ k, mv.ownBlock = some k → W6.heap.size ≤ k)) (fun jv wr => y.b.ws.length - (intOf jv).toNat)
    case atStart => exact ⟨0, mv, M, Nat.zero_le _, rfl, HR, Lib.hid fun k => (HM1.out k).trans (by simp), HK, HN⟩
    case round =>
    clear HR HM1 HK HN mv M
    obtain ⟨j, mv, M, hj, rfl, HR, HM1, HK, HN⟩ := hrel
    obtain ⟨a3, a4, a0, a2⟩ := (HS0 _ _ _ HR.out).out
    by_cases hlj : j < y.b.ws.length
    · obtain ⟨u, hu⟩ : ∃ u, y.b.ws[j]? = some u := ⟨_, List.getElem?_eq_getElem hlj⟩
      have hym : y ∈ lO := List.mem_of_getElem? Hy.out
      have hwy : Blk wr y.arr (flat y.b.ws) 33 := HR.out.wo y (List.mem_append_right _ hym)
      obtain ⟨u0, u1, u2, u3, u4, u5⟩ := six_of_blk hwy hu
      have Hu := Lib.hid hu; have Hym := Lib.hid hym
      have HC : Hid (Calls Try.prog 75 #[.pointer (some ⟨r.rp, 0, none⟩), u.val] wr (BoolR (r.log.yg u) wr)) := Lib.hid (Ryoung_any HR.out u)
      unfold Wd.val Wd.cells at HC
      clear hu hym hwy
      go_wp2_with fail
      refine HC.out.mono ?_
      rintro e w2 ⟨rfl, hx2⟩
      have HR2 := Lib.hid (HR.out.ext hx2)
      have HK2 : Hid (Keeps (fun k => k = r.rp) W6 w2) := Lib.hid (HK.out.trans (hx2.mono fun _ _ h => h.elim))
      clear hx2 u0 u1 u2 u3 u4 u5 HC a3 a4 a0 a2 HR HK
      by_cases hyg : r.log.yg u = true
      · have Hyg := Lib.hid hyg
        rw [hyg]
        clear hyg
        go_upto_region 42 with fail
        have HS := HS0 _ _ _ (HR2.out.ext (Ext.refl w2).drew)
        refine region_S_plain (n := 3) (fun V => V.cell? ⟨r.rp, 3, none⟩ = some (.slice (some ⟨g, 0, none⟩) lO.length vc) ∧ V.cell? ⟨r.rp, 4, none⟩ = some mv ∧ V.cell? ⟨g, i * 3, none⟩ = some (.int .i64 y.b.at_) ∧ V.cell? ⟨g, i * 3 + 2, none⟩ = some (.slice (some ⟨y.arr, 0, none⟩) y.b.ws.length y.b.ws.length)) 16 (by kernel_rfl) ?_
        have HR3 := Lib.hid (HR2.out.ext (Ext.refl w2).drew)
        have HK3 : Hid (Keeps (fun k => k = r.rp) W6 w2.drew) := Lib.hid HK2.out.drew
        clear HR2 HK2
        generalize w2.drew = W3 at HR3 HK3 HS ⊢
        refine anyS_quiet (a2 := ?ac_0) 0 rfl rfl rfl (by kernel_rfl) (by kernel_rfl) (by kernel_rfl) (by kernel_rfl) (by kernel_rfl) (by kernel_rfl) (fun _ _ _ _ h => h) HS.out ?hc_0 ?kc_0
        case hc_0 => intro W hW K hK; obtain ⟨d3, d4, d0, d2⟩ := hW; go_simp; exact hK
        refine anyS_quiet (a2 := ?ac_1) 1 rfl rfl rfl (by kernel_rfl) (by kernel_rfl) (by kernel_rfl) (by kernel_rfl) (by kernel_rfl) (by kernel_rfl) (fun _ _ _ _ h => h) HS.out ?hc_1 ?kc_1
        case hc_1 => intro W hW K hK; obtain ⟨d3, d4, d0, d2⟩ := hW; go_simp; exact hK
        refine anyS_quiet (a2 := ?ac_2) 2 rfl rfl rfl (by kernel_rfl) (by kernel_rfl) (by kernel_rfl) (by kernel_rfl) (by kernel_rfl) (by kernel_rfl) (fun _ _ _ _ h => h) HS.out ?hc_2 ?kc_2
        case hc_2 => intro W hW K hK; obtain ⟨d3, d4, d0, d2⟩ := hW; go_simp; exact hK
        refine anyS_quiet (a2 := ?ac_3) 3 rfl rfl rfl (by kernel_rfl) (by kernel_rfl) (by kernel_rfl) (by kernel_rfl) (by kernel_rfl) (by kernel_rfl) (fun _ _ _ _ h => h) HS.out ?hc_3 ?kc_3
        case hc_3 => intro W hW K hK; obtain ⟨d3, d4, d0, d2⟩ := hW; go_simp; exact hK
        refine anyS_quiet (a2 := ?ac_4) 4 rfl rfl rfl (by kernel_rfl) (by kernel_rfl) (by kernel_rfl) (by kernel_rfl) (by kernel_rfl) (by kernel_rfl) (fun _ _ _ _ h => h) HS.out ?hc_4 ?kc_4
        case hc_4 => intro W hW K hK; obtain ⟨d3, d4, d0, d2⟩ := hW; go_simp; exact hK
        refine anyS_quiet (a2 := ?ac_5) 5 rfl rfl rfl (by kernel_rfl) (by kernel_rfl) (by kernel_rfl) (by kernel_rfl) (by kernel_rfl) (by kernel_rfl) (fun _ _ _ _ h => h) HS.out ?hc_5 ?kc_5
        case hc_5 => intro W hW K hK; obtain ⟨d3, d4, d0, d2⟩ := hW; go_simp; exact hK
        refine anyS_quiet (a2 := ?ac_6) 6 rfl rfl rfl (by kernel_rfl) (by kernel_rfl) (by kernel_rfl) (by kernel_rfl) (by kernel_rfl) (by kernel_rfl) (fun _ _ _ _ h => h) HS.out ?hc_6 ?kc_6
        case hc_6 => intro W hW K hK; obtain ⟨d3, d4, d0, d2⟩ := hW; go_simp; exact hK
        refine anyS_quiet (a2 := ?ac_7) 7 rfl rfl rfl (by kernel_rfl) (by kernel_rfl) (by kernel_rfl) (by kernel_rfl) (by kernel_rfl) (by kernel_rfl) (fun _ _ _ _ h => h) HS.out ?hc_7 ?kc_7
        case hc_7 => intro W hW K hK; obtain ⟨d3, d4, d0, d2⟩ := hW; go_simp; exact hK
        refine anyS_quiet (a2 := ?ac_8) 8 rfl rfl rfl (by kernel_rfl) (by kernel_rfl) (by kernel_rfl) (by kernel_rfl) (by kernel_rfl) (by kernel_rfl) (fun _ _ _ _ h => h) HS.out ?hc_8 ?kc_8
        case hc_8 => intro W hW K hK; obtain ⟨d3, d4, d0, d2⟩ := hW; go_simp; exact hK
        refine anyS_quiet (a2 := ?ac_9) 9 rfl rfl rfl (by kernel_rfl) (by kernel_rfl) (by kernel_rfl) (by kernel_rfl) (by kernel_rfl) (by kernel_rfl) (fun _ _ _ _ h => h) HS.out ?hc_9 ?kc_9
        case hc_9 => intro W hW K hK; obtain ⟨d3, d4, d0, d2⟩ := hW; go_simp; exact hK
        refine anyS_quiet (a2 := ?ac_10) 10 rfl rfl rfl (by kernel_rfl) (by kernel_rfl) (by kernel_rfl) (by kernel_rfl) (by kernel_rfl) (by kernel_rfl) (fun _ _ _ _ h => h) HS.out ?hc_10 ?kc_10
        case hc_10 => intro W hW K hK; obtain ⟨d3, d4, d0, d2⟩ := hW; go_simp; exact hK
        refine anyS_quiet (a2 := ?ac_11) 11 rfl rfl rfl (by kernel_rfl) (by kernel_rfl) (by kernel_rfl) (by kernel_rfl) (by kernel_rfl) (by kernel_rfl) (fun _ _ _ _ h => h) HS.out ?hc_11 ?kc_11
        case hc_11 => intro W hW K hK; obtain ⟨d3, d4, d0, d2⟩ := hW; go_simp; exact hK
        refine anyS_quiet (a2 := ?ac_12) 12 rfl rfl rfl (by kernel_rfl) (by kernel_rfl) (by kernel_rfl) (by kernel_rfl) (by kernel_rfl) (by kernel_rfl) (fun _ _ _ _ h => h) HS.out ?hc_12 ?kc_12
        case hc_12 => intro W hW K hK; obtain ⟨d3, d4, d0, d2⟩ := hW; go_simp; exact hK
        refine anyS_only 13 rfl (by kernel_rfl) ?_
        have HCi := Lib.hid (Rinto_any HR3.out.mrow HR3.out.sorted (Nat.le_trans HR3.out.mlen (by omega)) y.b.at_)
        gi_wp2_with fail
        refine (callsIn_WF HCi.out).mono ?_
        rintro e w4 ⟨v', zs', rfl, hok, hrow, hx4⟩
        have HR4 := Lib.hid (HR3.out.ext hx4)
        have HK4 : Hid (Keeps (fun k => k = r.rp) W6 w4) := Lib.hid (HK3.out.trans (hx4.mono fun _ _ h => h.elim))
        have Hok := Lib.hid hok
        have HS4 := HS0 _ _ _ HR4.out
        have hown : ∃ b0, base ≤ b0 ∧ w4.ownsRow b0 3 1 v' zs'.length (zs'.map (Value.int .i64)) ∧ ∀ k, v'.ownBlock = some k → W6.heap.size ≤ k := by
          rcases hrow with ⟨e1, e2⟩ | hf
          · subst e1; subst e2
            exact ⟨base, Nat.le_refl _, HR4.out.mrow, HN.out⟩
          · have h2 := HK3.out.size
            exact ⟨W3.heap.size, by have h1 := HRs.out.base_le; omega, hf, fun k hk => by have h1 := (hf.lt k hk).1; omega⟩
        obtain ⟨b0, hb0, hrow, hfpv⟩ := hown
        obtain ⟨na, nc, rfl⟩ := own_slice hrow
        have Hb0 := Lib.hid hb0; have Hro2 := Lib.hid hrow; have Hfpv := Lib.hid hfpv
        have f4 : w4.frozen? ⟨r.rp, 4, none⟩ = false := HR4.out.blk.frozen 4
        clear hok hx4 hb0 hrow hfpv HCi HR3 HK3 HS
        gi_wp2
        refine And.intro (by first | exact .inr HS4.out | exact HS4.out) ?_
        refine anyS_quiet (a2 := ?ad_14) 14 rfl rfl rfl (by kernel_rfl) (by kernel_rfl) (by kernel_rfl) (by kernel_rfl) (by kernel_rfl) (by kernel_rfl) (fun _ _ _ _ h => h) HS4.out ?hd_14 ?kd_14
        case hd_14 => intro W hW K hK; obtain ⟨d3, d4, d0, d2⟩ := hW; go_simp; exact hK
        refine anyS_quiet (a2 := ?ad_15) 15 rfl rfl rfl (by kernel_rfl) (by kernel_rfl) (by kernel_rfl) (by kernel_rfl) (by kernel_rfl) (by kernel_rfl) (fun _ _ _ _ h => h) HS4.out ?hd_15 ?kd_15
        case hd_15 => intro W hW K hK; obtain ⟨d3, d4, d0, d2⟩ := hW; go_simp; exact hK
        refine anyS_only 16 rfl (by kernel_rfl) ?_
        obtain ⟨a3, a4, a0, a2⟩ := HS4.out
        gi_wp2
        refine And.intro (by kernel_rfl) ?_
        have hR5 := HR4.out.setM (M := zs') rfl Hb0.out Hro2.out Hok.out.sorted fun k hk => by
          rcases (Hok.out.mem k).1 hk with e | hk
          · rw [e]; exact List.mem_map_of_mem (List.mem_map_of_mem Hym.out)
          · exact HR4.out.msub k hk
        have HR5 := Lib.hid hR5
        have HK5 : Hid (Keeps (fun k => k = r.rp) W6 (w4.setCell ⟨r.rp, 4, none⟩ (.slice na zs'.length nc))) := Lib.hid (HK4.out.setCell (p := ⟨r.rp, 4, none⟩) (.inl rfl) _)
        clear hR5 a3 a4 a0 a2 f4 HS4
        go_wp2_with fail
        refine ⟨⟨j + 1, _, zs', by omega, by simp, HR5, Lib.hid fun k => ?_, HK5, Hfpv⟩, by simp only [intOf]; omega⟩
        rw [Hok.out.mem k, HM1.out k, List.take_add_one, Hu.out]
        simp [Hyg.out]
        constructor
        · rintro (h | h | h)
          · exact .inr h
          · exact .inl h
          · exact .inr h.1
        · rintro (h | h)
          · exact .inr (.inl h)
          · exact .inl h
      · have hyg' : r.log.yg u = false := by simpa using hyg
        have Hyg := Lib.hid hyg'
        rw [hyg']
        clear hyg hyg'
        go_wp2_with fail
        refine ⟨⟨j + 1, mv, M, by omega, by simp, HR2, Lib.hid fun k => ?_, HK2, HN⟩, by simp only [intOf]; omega⟩
        rw [HM1.out k, List.take_add_one, Hu.out]
        simp [Hyg.out]
    · have hjn : j = y.b.ws.length := by omega
      subst hjn
      go_wp2_with fail
      refine ⟨⟨i + 1, mv, M, by omega, by simp, HR, Lib.hid fun k => ?_, HK, HN⟩, by simp only [intOf]; omega⟩
      rw [HM1.out k, List.take_length, List.take_add_one, HyL.out]
      exact remL_snoc.symm
  have hin : i = lO.length := by omega
  subst hin
  have HMe : Hid (∀ k, k ∈ M ↔ remL r.log (lO.map RB.b) k) := Lib.hid fun k => by
    rw [HM1.out k, List.take_of_length_le (by simp)]
  have HKe : Hid (Keeps (fun k => k = r.rp) w wr) := Lib.hid (HK6.out.trans HK.out)
  have keepR : ∀ {b : Nat} {e : TypeId} {size : Nat} {v : Value} {n : Nat} {xs : List Value}, 69 ≠ e → W6.ownsRow b e size v n xs → wr.ownsRow b e size v n xs := fun hT h => ownsRow_keeps h fun k hk => HK.out.block k (h.lt k hk).2 fun e => by
    obtain ⟨c1, h1⟩ := ownsRow_type h hk
    exact h1.ne HRs.out.blk (Ne.symm hT) e
  have hFe := keepR (by decide) HF6.out
  have hTe := keepR (by decide) HT6.out
  have hRe : RdW wr v roots := Hr.out.kept2 HKe.out fun hn k hk e => Hro.out hn k hk (.inl e)
  have HCw := Lib.hid (Rwords_any hFe hTe (by rw [Hfl.out, Htl.out]) (by rw [Hfl.out]; omega) hRe hl)
  rw [Hfl.out, Htl.out] at HCw
  obtain ⟨c0, c1, c2, c3, c4⟩ : wr.cell? ⟨r.rp, 0, none⟩ = some (.int .i64 r.Y) ∧ wr.cell? ⟨r.rp, 1, none⟩ = some (.int .i64 r.O) ∧ True ∧ wr.cell? ⟨r.rp, 3, none⟩ = some (.slice va lO.length vc) ∧ True := ⟨HR.out.c0, HR.out.c1, trivial, HR.out.c3, trivial⟩
  clear hFe hTe hRe keepR hlt hi HF6 HT6 HM1 HK c0 c1 c2 c4
  go_wp2_with fail
  refine HCw.out.mono ?_
  rintro e w8 ⟨arr, rfl, hba, harr, hx8⟩
  have HX8 := Lib.hid hx8
  have HBa := Lib.hid hba; have Harr := Lib.hid harr
  clear hba harr hx8 HCw c3
  go_wp2_with fail
  rw [← HM.out]
  refine ⟨.slice (some ⟨arr, 0, none⟩) roots.length roots.length, by rw [Hmaj2.out]; rfl, ?_, fun k hk => ?_, _, HR.out.ext HX8.out, rfl, ?_, ?_, fun k hk => ?_⟩
  · rw [Hmaj2.out]
    have h2 := rdW_of_blk HBa.out roots.length
    rw [List.length_map] at h2
    exact h2
  · have h1 := Harr.out
    have h2 : arr = k := by simpa [Value.ownBlock] using hk
    have h3 := HKe.out.size
    omega
  · rw [Hmaj1.out]
    exact ⟨rfl, rfl, rfl, rfl, fun k => (HRm.out k).trans (HMe.out k).symm⟩
  · exact (HKe.out.mono fun k _ e => .inl e : Keeps r.fp w wr).trans (HX8.out.mono fun _ _ h => h.elim)
  · have hs1 := HX0.out.size; have hs2 := Hnw.out.2; have hs3 := Hn0.out; have hs4 := Hn6.out
    rcases hk with rfl | hk | hk | hk | hk
    · exact .inl (.inl rfl)
    · exact .inr (by have := (HfY6.out.row.lt k hk.symm).1; omega)
    · exact .inr (by have := (HfO6.out.row.lt k hk.symm).1; omega)
    · exact .inr (by have := HN.out k hk.symm; omega)
    · obtain ⟨y, hym, rfl⟩ := List.mem_map.1 hk
      rcases List.mem_append.1 hym with hym | hym
      · exact .inr (by have := HfY6.out.low y hym; omega)
      · exact .inr (by have := HfO6.out.low y hym; omega)
end Go.Proofs.Ytikigppfnhilhaa
