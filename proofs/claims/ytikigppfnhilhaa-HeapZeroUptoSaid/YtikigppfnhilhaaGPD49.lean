/- did: an act on both heaps. -/
import Derived.Test.YtikigppfnhilhaaGPD48
/- did: an act on both heaps. -/
namespace Go.Proofs.Ytikigppfnhilhaa
open Go.RowKit Go.Instr
set_option linter.unusedVariables false
set_option linter.unusedSimpArgs false
attribute [local go_sem] Oper.semAt_some

theorem run_eqlW (u : Wd) (w : World) : (binOp .eql 33 u.val u.val).run Try.prog w = .ok (.bool true) w := by
  obtain ⟨a1, a2, a3, a4, a5, a6⟩ := u
  unfold Wd.val Wd.cells
  simp only [run_eql_struct]
  simp [go_sem]

set_option maxRecDepth 100000 in
set_option maxHeartbeats 8000000 in
theorem did_0 {base : Nat} {v : Value} {St : World → LH → (Nat → Prop) → Prop} (O : Ops base v St) {w : World} {h : LH} {P : Nat → Prop} {r : RH} (j : Joint base St r.rp w h P r) (x : Ac) {ra : Option Addr} {rc : Nat}
    (hr : RdW w (.slice ra x.roots.length rc) x.roots) (hap : x.roots ≠ [] → ∀ k, (Value.slice ra x.roots.length rc).ownBlock = some k → ¬ P k ∧ ¬ r.fp k) (hl : x.roots.length ≤ 1048576) (hk : x.kind = 0) :
    Calls Try.prog 32 #[v, .pointer (some ⟨r.rp, 0, none⟩), .agg (x.box (.slice ra x.roots.length rc))] w (DidR base St r.rp w P r) := by
  obtain ⟨n, hn⟩ : ∃ n, x.roots.length = n := ⟨_, rfl⟩
  obtain ⟨bx, hbx⟩ : ∃ bx, w.heap.size = bx := ⟨_, rfl⟩
  have hPlt := O.lt j.st
  have hRlt := j.ref.fp_lt
  rw [hbx] at hPlt hRlt
  have HPn : Hid (¬ P bx ∧ ¬ r.fp bx) := Lib.hid ⟨fun hp => by have := hPlt bx hp; omega, fun hp => by have := hRlt bx hp; omega⟩
  have HPl := Lib.hid hPlt; have HRl := Lib.hid hRlt; have Hn := Lib.hid hn; have Hbx := Lib.hid hbx
  have J := Lib.hid j; have Hr := Lib.hid hr; have Hap := Lib.hid hap; have Hk := Lib.hid hk
  generalize hM : DidR base St r.rp w P r = M
  have HM := Lib.hid hM
  unfold Ac.box
  rw [hn]
  clear hPlt hRlt hbx j hr hap hM hn hk
  go_enter Try.func32, Try.ntmps32
  go_upto_region 1 with fail
  obtain ⟨W1, hW1⟩ : ∃ W1, w.alloc (.cells (x.box (.slice ra n rc)) 35) = W1 := ⟨_, rfl⟩
  have HX1 : Hid (Ext w W1) := Lib.hid (by rw [← hW1]; exact (Ext.refl w).alloc _)
  have HB1 : Hid (Blk W1 bx (x.box (.slice ra n rc)) 35) := Lib.hid (by rw [← hW1, ← Hbx.out]; exact Blk.new w _ _)
  have HJ1 := Lib.hid (J.out.ext O HX1.out)
  have Hr1 := Lib.hid (Hr.out.ext HX1.out)
  have HW1 := Lib.hid hW1
  have Hs1 : Hid (bx < W1.heap.size) := Lib.hid HB1.out.lt
  have c0 : W1.cell? ⟨bx, 0, none⟩ = some (.int .i64 x.kind) := (HB1.out.cell 0).trans rfl
  have c1 : W1.cell? ⟨bx, 0 + 1, none⟩ = some (.int .i64 x.a) := (HB1.out.cell 1).trans rfl
  have c2 : W1.cell? ⟨bx, 0 + 2, none⟩ = some (.int .i64 x.b) := (HB1.out.cell 2).trans rfl
  unfold Ac.box at hW1
  rw [Hbx.out, hW1]
  clear hW1
  have hk : x.kind = 0 := Hk.out
  rw [hk] at c0
  clear hk
  have HC := Lib.hid (O.alloc HJ1.out.st x.a x.b)
  go_wp2_with fail
  refine HC.out.mono ?_
  rintro e w2 ⟨rfl, ha⟩
  obtain ⟨P', hL⟩ := HJ1.out.lead O ha
  have HL := Lib.hid hL
  have HB2 := Lib.hid (ha.1.blk HB1.out HPn.out.1)
  have HCr := Lib.hid (RAlloc_any HL.out.ref HL.out.cpl x.a x.b)
  clear c0 c1 c2 ha hL HC
  have c1 : w2.cell? ⟨bx, 0 + 1, none⟩ = some (.int .i64 x.a) := (HB2.out.cell 1).trans rfl
  have c2 : w2.cell? ⟨bx, 0 + 2, none⟩ = some (.int .i64 x.b) := (HB2.out.cell 2).trans rfl
  go_wp2_with fail
  refine HCr.out.mono ?_
  rintro e w3 ⟨rfl, hst⟩
  obtain ⟨r', hJ, hK⟩ := HL.out.join O hst
  have HJ := Lib.hid hJ; have HK := Lib.hid hK
  generalize (h.alloc x.a x.b).2.1 = A1
  generalize (h.alloc x.a x.b).2.2 = A2
  clear c1 c2 hst hJ hK HCr
  go_wp2_with fail
  rw [← HM.out]
  exact ⟨rfl, _, _, r', HJ.out, (HX1.out.mono fun _ _ h => h.elim : Keeps (fun k => P k ∨ r.fp k) w W1).trans HK.out⟩

set_option maxRecDepth 100000 in
set_option maxHeartbeats 8000000 in
theorem did_1 {base : Nat} {v : Value} {St : World → LH → (Nat → Prop) → Prop} (O : Ops base v St) {w : World} {h : LH} {P : Nat → Prop} {r : RH} (j : Joint base St r.rp w h P r) (x : Ac) {ra : Option Addr} {rc : Nat}
    (hr : RdW w (.slice ra x.roots.length rc) x.roots) (hap : x.roots ≠ [] → ∀ k, (Value.slice ra x.roots.length rc).ownBlock = some k → ¬ P k ∧ ¬ r.fp k) (hl : x.roots.length ≤ 1048576) (hk : x.kind = 1) :
    Calls Try.prog 32 #[v, .pointer (some ⟨r.rp, 0, none⟩), .agg (x.box (.slice ra x.roots.length rc))] w (DidR base St r.rp w P r) := by
  obtain ⟨n, hn⟩ : ∃ n, x.roots.length = n := ⟨_, rfl⟩
  obtain ⟨bx, hbx⟩ : ∃ bx, w.heap.size = bx := ⟨_, rfl⟩
  have hPlt := O.lt j.st
  have hRlt := j.ref.fp_lt
  rw [hbx] at hPlt hRlt
  have HPn : Hid (¬ P bx ∧ ¬ r.fp bx) := Lib.hid ⟨fun hp => by have := hPlt bx hp; omega, fun hp => by have := hRlt bx hp; omega⟩
  have HPl := Lib.hid hPlt; have HRl := Lib.hid hRlt; have Hn := Lib.hid hn; have Hbx := Lib.hid hbx
  have J := Lib.hid j; have Hr := Lib.hid hr; have Hap := Lib.hid hap; have Hk := Lib.hid hk
  generalize hM : DidR base St r.rp w P r = M
  have HM := Lib.hid hM
  unfold Ac.box
  rw [hn]
  clear hPlt hRlt hbx j hr hap hM hn hk
  go_enter Try.func32, Try.ntmps32
  go_upto_region 1 with fail
  obtain ⟨W1, hW1⟩ : ∃ W1, w.alloc (.cells (x.box (.slice ra n rc)) 35) = W1 := ⟨_, rfl⟩
  have HX1 : Hid (Ext w W1) := Lib.hid (by rw [← hW1]; exact (Ext.refl w).alloc _)
  have HB1 : Hid (Blk W1 bx (x.box (.slice ra n rc)) 35) := Lib.hid (by rw [← hW1, ← Hbx.out]; exact Blk.new w _ _)
  have HJ1 := Lib.hid (J.out.ext O HX1.out)
  have Hr1 := Lib.hid (Hr.out.ext HX1.out)
  have HW1 := Lib.hid hW1
  have Hs1 : Hid (bx < W1.heap.size) := Lib.hid HB1.out.lt
  have c0 : W1.cell? ⟨bx, 0, none⟩ = some (.int .i64 x.kind) := (HB1.out.cell 0).trans rfl
  have c1 : W1.cell? ⟨bx, 0 + 1, none⟩ = some (.int .i64 x.a) := (HB1.out.cell 1).trans rfl
  have c2 : W1.cell? ⟨bx, 0 + 2, none⟩ = some (.int .i64 x.b) := (HB1.out.cell 2).trans rfl
  unfold Ac.box at hW1
  rw [Hbx.out, hW1]
  clear hW1
  have hk : x.kind = 1 := Hk.out
  rw [hk] at c0
  clear hk
  go_upto_region 7 with fail
  have HX1d : Hid (Ext w W1.drew) := Lib.hid HX1.out.drew
  have HB1d : Hid (Blk W1.drew bx (x.box (.slice ra n rc)) 35) := Lib.hid HB1.out
  have HJ1d := Lib.hid (HJ1.out.ext O (Ext.refl W1).drew)
  have Hs1d : Hid (bx < W1.drew.heap.size) := Lib.hid HB1d.out.lt
  have HSB : ∀ V, Blk V bx (x.box (.slice ra n rc)) 35 → Hid (V.cell? ⟨bx, 1, none⟩ = some (.int .i64 x.a) ∧ V.cell? ⟨bx, 2, none⟩ = some (.int .i64 x.b) ∧ V.cell? ⟨bx, 3, none⟩ = some (.int .i64 x.w.tag) ∧ V.cell? ⟨bx, 4, none⟩ = some (.int .i64 x.w.a) ∧ V.cell? ⟨bx, 5, none⟩ = some (.int .i64 x.w.b) ∧ V.cell? ⟨bx, 6, none⟩ = some (.string x.w.text) ∧ V.cell? ⟨bx, 7, none⟩ = some (.int .i64 x.w.man) ∧ V.cell? ⟨bx, 8, none⟩ = some (.int .i64 x.w.exp)) := fun V hV =>
    Lib.hid ⟨(hV.cell 1).trans rfl, (hV.cell 2).trans rfl, (hV.cell 3).trans rfl, (hV.cell 4).trans rfl, (hV.cell 5).trans rfl, (hV.cell 6).trans rfl, (hV.cell 7).trans rfl, (hV.cell 8).trans rfl⟩
  have HS := HSB _ HB1d.out
  refine region_S_plain (n := 3) (fun V => V.cell? ⟨bx, 1, none⟩ = some (.int .i64 x.a) ∧ V.cell? ⟨bx, 2, none⟩ = some (.int .i64 x.b) ∧ V.cell? ⟨bx, 3, none⟩ = some (.int .i64 x.w.tag) ∧ V.cell? ⟨bx, 4, none⟩ = some (.int .i64 x.w.a) ∧ V.cell? ⟨bx, 5, none⟩ = some (.int .i64 x.w.b) ∧ V.cell? ⟨bx, 6, none⟩ = some (.string x.w.text) ∧ V.cell? ⟨bx, 7, none⟩ = some (.int .i64 x.w.man) ∧ V.cell? ⟨bx, 8, none⟩ = some (.int .i64 x.w.exp)) 100 (by kernel_rfl) ?_
  clear c0 c1 c2 HJ1 HB1 HX1 Hr1 HW1 Hs1
  generalize W1.drew = W2 at HX1d HB1d HJ1d Hs1d HS ⊢
  refine anyS_quiet (a2 := ?a0) 0 rfl rfl rfl (by kernel_rfl) (by kernel_rfl) (by kernel_rfl) (by kernel_rfl) (by kernel_rfl) (by kernel_rfl) (fun _ _ _ _ h => h) HS.out ?h0 ?k0
  case h0 => intro W hW K hK; obtain ⟨d1, d2, d3, d4, d5, d6, d7, d8⟩ := hW; go_simp; exact hK
  refine anyS_quiet (a2 := ?a1) 1 rfl rfl rfl (by kernel_rfl) (by kernel_rfl) (by kernel_rfl) (by kernel_rfl) (by kernel_rfl) (by kernel_rfl) (fun _ _ _ _ h => h) HS.out ?h1 ?k1
  case h1 => intro W hW K hK; obtain ⟨d1, d2, d3, d4, d5, d6, d7, d8⟩ := hW; go_simp; exact hK
  refine anyS_quiet (a2 := ?a2) 2 rfl rfl rfl (by kernel_rfl) (by kernel_rfl) (by kernel_rfl) (by kernel_rfl) (by kernel_rfl) (by kernel_rfl) (fun _ _ _ _ h => h) HS.out ?h2 ?k2
  case h2 => intro W hW K hK; obtain ⟨d1, d2, d3, d4, d5, d6, d7, d8⟩ := hW; go_simp; exact hK
  refine anyS_quiet (a2 := ?a3) 3 rfl rfl rfl (by kernel_rfl) (by kernel_rfl) (by kernel_rfl) (by kernel_rfl) (by kernel_rfl) (by kernel_rfl) (fun _ _ _ _ h => h) HS.out ?h3 ?k3
  case h3 => intro W hW K hK; obtain ⟨d1, d2, d3, d4, d5, d6, d7, d8⟩ := hW; go_simp; exact hK
  refine anyS_quiet (a2 := ?a4) 4 rfl rfl rfl (by kernel_rfl) (by kernel_rfl) (by kernel_rfl) (by kernel_rfl) (by kernel_rfl) (by kernel_rfl) (fun _ _ _ _ h => h) HS.out ?h4 ?k4
  case h4 => intro W hW K hK; obtain ⟨d1, d2, d3, d4, d5, d6, d7, d8⟩ := hW; go_simp; exact hK
  refine anyS_quiet (a2 := ?a5) 5 rfl rfl rfl (by kernel_rfl) (by kernel_rfl) (by kernel_rfl) (by kernel_rfl) (by kernel_rfl) (by kernel_rfl) (fun _ _ _ _ h => h) HS.out ?h5 ?k5
  case h5 => intro W hW K hK; obtain ⟨d1, d2, d3, d4, d5, d6, d7, d8⟩ := hW; go_simp; exact hK
  refine anyS_quiet (a2 := ?a6) 6 rfl rfl rfl (by kernel_rfl) (by kernel_rfl) (by kernel_rfl) (by kernel_rfl) (by kernel_rfl) (by kernel_rfl) (fun _ _ _ _ h => h) HS.out ?h6 ?k6
  case h6 => intro W hW K hK; obtain ⟨d1, d2, d3, d4, d5, d6, d7, d8⟩ := hW; go_simp; exact hK
  refine anyS_quiet (a2 := ?ab_8) 8 rfl rfl rfl (by kernel_rfl) (by kernel_rfl) (by kernel_rfl) (by kernel_rfl) (by kernel_rfl) (by kernel_rfl) (fun _ _ _ _ h => h) HS.out ?hb_8 ?kb_8
  case hb_8 => intro W hW K hK; obtain ⟨d1, d2, d3, d4, d5, d6, d7, d8⟩ := hW; go_simp; exact hK
  refine anyS_quiet (a2 := ?ab_9) 9 rfl rfl rfl (by kernel_rfl) (by kernel_rfl) (by kernel_rfl) (by kernel_rfl) (by kernel_rfl) (by kernel_rfl) (fun _ _ _ _ h => h) HS.out ?hb_9 ?kb_9
  case hb_9 => intro W hW K hK; obtain ⟨d1, d2, d3, d4, d5, d6, d7, d8⟩ := hW; go_simp; exact hK
  refine anyS_quiet (a2 := ?ab_10) 10 rfl rfl rfl (by kernel_rfl) (by kernel_rfl) (by kernel_rfl) (by kernel_rfl) (by kernel_rfl) (by kernel_rfl) (fun _ _ _ _ h => h) HS.out ?hb_10 ?kb_10
  case hb_10 => intro W hW K hK; obtain ⟨d1, d2, d3, d4, d5, d6, d7, d8⟩ := hW; go_simp; exact hK
  refine anyS_quiet (a2 := ?ab_11) 11 rfl rfl rfl (by kernel_rfl) (by kernel_rfl) (by kernel_rfl) (by kernel_rfl) (by kernel_rfl) (by kernel_rfl) (fun _ _ _ _ h => h) HS.out ?hb_11 ?kb_11
  case hb_11 => intro W hW K hK; obtain ⟨d1, d2, d3, d4, d5, d6, d7, d8⟩ := hW; go_simp; exact hK
  refine anyS_quiet (a2 := ?ab_12) 12 rfl rfl rfl (by kernel_rfl) (by kernel_rfl) (by kernel_rfl) (by kernel_rfl) (by kernel_rfl) (by kernel_rfl) (fun _ _ _ _ h => h) HS.out ?hb_12 ?kb_12
  case hb_12 => intro W hW K hK; obtain ⟨d1, d2, d3, d4, d5, d6, d7, d8⟩ := hW; go_simp; exact hK
  refine anyS_quiet (a2 := ?ab_13) 13 rfl rfl rfl (by kernel_rfl) (by kernel_rfl) (by kernel_rfl) (by kernel_rfl) (by kernel_rfl) (by kernel_rfl) (fun _ _ _ _ h => h) HS.out ?hb_13 ?kb_13
  case hb_13 => intro W hW K hK; obtain ⟨d1, d2, d3, d4, d5, d6, d7, d8⟩ := hW; go_simp; exact hK
  refine anyS_quiet (a2 := ?ab_14) 14 rfl rfl rfl (by kernel_rfl) (by kernel_rfl) (by kernel_rfl) (by kernel_rfl) (by kernel_rfl) (by kernel_rfl) (fun _ _ _ _ h => h) HS.out ?hb_14 ?kb_14
  case hb_14 => intro W hW K hK; obtain ⟨d1, d2, d3, d4, d5, d6, d7, d8⟩ := hW; go_simp; exact hK
  refine anyS_only 7 rfl (by kernel_rfl) ?_
  have HC := Lib.hid (O.store HJ1d.out.st x.a x.b x.w)
  unfold Wd.val Wd.cells at HC
  gi_wp2_with fail
  refine (callsIn_WF HC.out).mono ?_
  rintro e w2 ⟨rfl, ha⟩
  obtain ⟨P', hL⟩ := HJ1d.out.lead O ha
  have HL := Lib.hid hL
  have HB2 := Lib.hid (ha.1.blk HB1d.out HPn.out.1)
  have HS2 := HSB _ HB2.out
  have HCr := Lib.hid (RStore_any HL.out.ref HL.out.cpl x.a x.b x.w)
  unfold Wd.val Wd.cells at HCr
  clear ha hL HC
  gi_wp2
  refine And.intro (by first | exact .inr HS2.out | exact HS2.out) ?_
  refine anyS_only 15 rfl (by kernel_rfl) ?_
  gi_wp2_with fail
  refine (callsIn_WF HCr.out).mono ?_
  rintro e w3 ⟨rfl, hst⟩
  have HB3 := Lib.hid (hst.choose_spec.2.2.2.1.blk HB2.out HPn.out.2)
  have HS3 := HSB _ HB3.out
  obtain ⟨r', hJ, hK⟩ := HL.out.join O hst
  have HJ := Lib.hid hJ; have HK := Lib.hid hK
  obtain ⟨E, hE⟩ : ∃ E, (h.store x.a x.b x.w).2 = E := ⟨_, rfl⟩
  rw [hE]
  clear hst hJ hK HCr hE
  gi_wp2
  refine And.intro (by first | exact .inr HS3.out | exact HS3.out) ?_
  refine anyS_quiet (a2 := ?ac_16) 16 rfl rfl rfl (by kernel_rfl) (by kernel_rfl) (by kernel_rfl) (by kernel_rfl) (by kernel_rfl) (by kernel_rfl) (fun _ _ _ _ h => h) HS3.out ?hc_16 ?kc_16
  case hc_16 => intro W hW K hK; obtain ⟨d1, d2, d3, d4, d5, d6, d7, d8⟩ := hW; go_simp; exact hK
  refine anyS_quiet (a2 := ?ac_17) 17 rfl rfl rfl (by kernel_rfl) (by kernel_rfl) (by kernel_rfl) (by kernel_rfl) (by kernel_rfl) (by kernel_rfl) (fun _ _ _ _ h => h) HS3.out ?hc_17 ?kc_17
  case hc_17 => intro W hW K hK; obtain ⟨d1, d2, d3, d4, d5, d6, d7, d8⟩ := hW; go_simp; exact hK
  refine anyS_done (by kernel_rfl) ?_ _
  go_wp2_with fail
  rw [← HM.out]
  exact ⟨rfl, _, _, r', HJ.out, (HX1d.out.mono fun _ _ h => h.elim : Keeps (fun k => P k ∨ r.fp k) w W2).trans HK.out⟩

set_option maxRecDepth 100000 in
set_option maxHeartbeats 8000000 in
theorem did_2 {base : Nat} {v : Value} {St : World → LH → (Nat → Prop) → Prop} (O : Ops base v St) {w : World} {h : LH} {P : Nat → Prop} {r : RH} (j : Joint base St r.rp w h P r) (x : Ac) {ra : Option Addr} {rc : Nat}
    (hr : RdW w (.slice ra x.roots.length rc) x.roots) (hap : x.roots ≠ [] → ∀ k, (Value.slice ra x.roots.length rc).ownBlock = some k → ¬ P k ∧ ¬ r.fp k) (hl : x.roots.length ≤ 1048576) (hk : x.kind = 2) :
    Calls Try.prog 32 #[v, .pointer (some ⟨r.rp, 0, none⟩), .agg (x.box (.slice ra x.roots.length rc))] w (DidR base St r.rp w P r) := by
  obtain ⟨n, hn⟩ : ∃ n, x.roots.length = n := ⟨_, rfl⟩
  obtain ⟨bx, hbx⟩ : ∃ bx, w.heap.size = bx := ⟨_, rfl⟩
  have hPlt := O.lt j.st
  have hRlt := j.ref.fp_lt
  rw [hbx] at hPlt hRlt
  have HPn : Hid (¬ P bx ∧ ¬ r.fp bx) := Lib.hid ⟨fun hp => by have := hPlt bx hp; omega, fun hp => by have := hRlt bx hp; omega⟩
  have HPl := Lib.hid hPlt; have HRl := Lib.hid hRlt; have Hn := Lib.hid hn; have Hbx := Lib.hid hbx
  have J := Lib.hid j; have Hr := Lib.hid hr; have Hap := Lib.hid hap; have Hk := Lib.hid hk
  generalize hM : DidR base St r.rp w P r = M
  have HM := Lib.hid hM
  unfold Ac.box
  rw [hn]
  clear hPlt hRlt hbx j hr hap hM hn hk
  go_enter Try.func32, Try.ntmps32
  go_upto_region 1 with fail
  obtain ⟨W1, hW1⟩ : ∃ W1, w.alloc (.cells (x.box (.slice ra n rc)) 35) = W1 := ⟨_, rfl⟩
  have HX1 : Hid (Ext w W1) := Lib.hid (by rw [← hW1]; exact (Ext.refl w).alloc _)
  have HB1 : Hid (Blk W1 bx (x.box (.slice ra n rc)) 35) := Lib.hid (by rw [← hW1, ← Hbx.out]; exact Blk.new w _ _)
  have HJ1 := Lib.hid (J.out.ext O HX1.out)
  have Hr1 := Lib.hid (Hr.out.ext HX1.out)
  have HW1 := Lib.hid hW1
  have Hs1 : Hid (bx < W1.heap.size) := Lib.hid HB1.out.lt
  have c0 : W1.cell? ⟨bx, 0, none⟩ = some (.int .i64 x.kind) := (HB1.out.cell 0).trans rfl
  have c1 : W1.cell? ⟨bx, 0 + 1, none⟩ = some (.int .i64 x.a) := (HB1.out.cell 1).trans rfl
  have c2 : W1.cell? ⟨bx, 0 + 2, none⟩ = some (.int .i64 x.b) := (HB1.out.cell 2).trans rfl
  unfold Ac.box at hW1
  rw [Hbx.out, hW1]
  clear hW1
  have hk : x.kind = 2 := Hk.out
  rw [hk] at c0
  clear hk
  have HC := Lib.hid (O.load HJ1.out.st x.a x.b)
  obtain ⟨u, hu⟩ : ∃ u, (loadL (h.find x.a) x.b).1 = u := ⟨_, rfl⟩
  obtain ⟨E, hE⟩ : ∃ E, (loadL (h.find x.a) x.b).2 = E := ⟨_, rfl⟩
  rw [hu, hE] at HC
  have Hu := Lib.hid hu; have HE := Lib.hid hE
  have hq := run_eqlW u
  unfold Wd.val Wd.cells at HC hq
  clear hu hE
  go_wp2_with fail
  refine HC.out.mono ?_
  rintro e w2 ⟨rfl, hx2⟩
  have HX2 := Lib.hid hx2
  have HB2 := Lib.hid (hx2.blk HB1.out id)
  have HJ2 := Lib.hid (HJ1.out.ext O hx2)
  clear c0 c1 c2 hx2 HC
  go_upto_region 10 with fail
  obtain ⟨b2, hb2⟩ : ∃ b2, w2.heap.size = b2 := ⟨_, rfl⟩
  obtain ⟨W3, hW3⟩ : ∃ W3, w2.alloc (.cells #[.int .i64 u.tag, .int .i64 u.a, .int .i64 u.b, .string u.text, .int .i64 u.man, .int .i64 u.exp] 33) = W3 := ⟨_, rfl⟩
  have HX3 : Hid (Ext w2 W3) := Lib.hid (by rw [← hW3]; exact (Ext.refl w2).alloc _)
  have HU3 : Hid (Blk W3 b2 #[.int .i64 u.tag, .int .i64 u.a, .int .i64 u.b, .string u.text, .int .i64 u.man, .int .i64 u.exp] 33) := Lib.hid (by rw [← hW3, ← hb2]; exact Blk.new w2 _ _)
  rw [hb2, hW3]
  clear hb2 hW3
  have HB3 := Lib.hid (HX3.out.blk HB2.out id)
  have HJ3 := Lib.hid (HJ2.out.ext O HX3.out)
  have c1 : W3.cell? ⟨bx, 0 + 1, none⟩ = some (.int .i64 x.a) := (HB3.out.cell 1).trans rfl
  have c2 : W3.cell? ⟨bx, 0 + 2, none⟩ = some (.int .i64 x.b) := (HB3.out.cell 2).trans rfl
  have HCr0 := RLoad_any HJ3.out.ref x.a x.b
  unfold RLoadR at HCr0
  rw [← HJ3.out.cpl.find, Hu.out, HE.out] at HCr0
  have HCr := Lib.hid HCr0
  clear HCr0 HB2 HJ2
  unfold Wd.val Wd.cells at HCr
  go_wp2_with fail
  refine HCr.out.mono ?_
  rintro e w4 ⟨rfl, hx4⟩
  have HX4 := Lib.hid hx4
  have HU4 := Lib.hid (hx4.blk HU3.out id)
  have HJ4 := Lib.hid (HJ3.out.ext O hx4)
  clear c1 c2 hx4 HCr HU3 HJ3 HB3
  go_upto_region 11 with fail
  obtain ⟨b4, hb4⟩ : ∃ b4, w4.heap.size = b4 := ⟨_, rfl⟩
  obtain ⟨W5, hW5⟩ : ∃ W5, w4.alloc (.cells #[.int .i64 u.tag, .int .i64 u.a, .int .i64 u.b, .string u.text, .int .i64 u.man, .int .i64 u.exp] 33) = W5 := ⟨_, rfl⟩
  have HX5 : Hid (Ext w4 W5) := Lib.hid (by rw [← hW5]; exact (Ext.refl w4).alloc _)
  have hu5 : Blk W5 b4 #[.int .i64 u.tag, .int .i64 u.a, .int .i64 u.b, .string u.text, .int .i64 u.man, .int .i64 u.exp] 33 := by rw [← hW5, ← hb4]; exact Blk.new w4 _ _
  rw [hb4, hW5]
  clear hb4 hW5
  have hv5 := HX5.out.blk HU4.out id
  have d0 : W5.cell? ⟨b2, 0, none⟩ = some (.int .i64 u.tag) := (hv5.cell 0).trans rfl
  have d1 : W5.cell? ⟨b2, 1, none⟩ = some (.int .i64 u.a) := (hv5.cell 1).trans rfl
  have d2 : W5.cell? ⟨b2, 2, none⟩ = some (.int .i64 u.b) := (hv5.cell 2).trans rfl
  have d3 : W5.cell? ⟨b2, 3, none⟩ = some (.string u.text) := (hv5.cell 3).trans rfl
  have d4 : W5.cell? ⟨b2, 4, none⟩ = some (.int .i64 u.man) := (hv5.cell 4).trans rfl
  have d5 : W5.cell? ⟨b2, 5, none⟩ = some (.int .i64 u.exp) := (hv5.cell 5).trans rfl
  have e0 : W5.cell? ⟨b4, 0, none⟩ = some (.int .i64 u.tag) := (hu5.cell 0).trans rfl
  have e1 : W5.cell? ⟨b4, 1, none⟩ = some (.int .i64 u.a) := (hu5.cell 1).trans rfl
  have e2 : W5.cell? ⟨b4, 2, none⟩ = some (.int .i64 u.b) := (hu5.cell 2).trans rfl
  have e3 : W5.cell? ⟨b4, 3, none⟩ = some (.string u.text) := (hu5.cell 3).trans rfl
  have e4 : W5.cell? ⟨b4, 4, none⟩ = some (.int .i64 u.man) := (hu5.cell 4).trans rfl
  have e5 : W5.cell? ⟨b4, 5, none⟩ = some (.int .i64 u.exp) := (hu5.cell 5).trans rfl
  clear hu5 hv5 HU4
  go_wp2_with fail
  rw [← HM.out]
  exact ⟨rfl, h, P, r, HJ4.out.ext O HX5.out, ((((HX1.out.trans HX2.out).trans HX3.out).trans HX4.out).trans HX5.out).mono fun _ _ h => h.elim⟩

set_option maxRecDepth 100000 in
set_option maxHeartbeats 8000000 in
theorem did_x {base : Nat} {v : Value} {St : World → LH → (Nat → Prop) → Prop} (O : Ops base v St) {w : World} {h : LH} {P : Nat → Prop} {r : RH} (j : Joint base St r.rp w h P r) (x : Ac) {ra : Option Addr} {rc : Nat}
    (hr : RdW w (.slice ra x.roots.length rc) x.roots) (hap : x.roots ≠ [] → ∀ k, (Value.slice ra x.roots.length rc).ownBlock = some k → ¬ P k ∧ ¬ r.fp k) (hl : x.roots.length ≤ 1048576) (hk : x.kind ≠ 0 ∧ x.kind ≠ 1 ∧ x.kind ≠ 2 ∧ x.kind ≠ 3 ∧ x.kind ≠ 4 ∧ x.kind ≠ 5 ∧ x.kind ≠ 6) :
    Calls Try.prog 32 #[v, .pointer (some ⟨r.rp, 0, none⟩), .agg (x.box (.slice ra x.roots.length rc))] w (DidR base St r.rp w P r) := by
  obtain ⟨n, hn⟩ : ∃ n, x.roots.length = n := ⟨_, rfl⟩
  obtain ⟨bx, hbx⟩ : ∃ bx, w.heap.size = bx := ⟨_, rfl⟩
  have hPlt := O.lt j.st
  have hRlt := j.ref.fp_lt
  rw [hbx] at hPlt hRlt
  have HPn : Hid (¬ P bx ∧ ¬ r.fp bx) := Lib.hid ⟨fun hp => by have := hPlt bx hp; omega, fun hp => by have := hRlt bx hp; omega⟩
  have HPl := Lib.hid hPlt; have HRl := Lib.hid hRlt; have Hn := Lib.hid hn; have Hbx := Lib.hid hbx
  have J := Lib.hid j; have Hr := Lib.hid hr; have Hap := Lib.hid hap; have Hk := Lib.hid hk
  generalize hM : DidR base St r.rp w P r = M
  have HM := Lib.hid hM
  unfold Ac.box
  rw [hn]
  clear hPlt hRlt hbx j hr hap hM hn hk
  go_enter Try.func32, Try.ntmps32
  go_upto_region 1 with fail
  obtain ⟨W1, hW1⟩ : ∃ W1, w.alloc (.cells (x.box (.slice ra n rc)) 35) = W1 := ⟨_, rfl⟩
  have HX1 : Hid (Ext w W1) := Lib.hid (by rw [← hW1]; exact (Ext.refl w).alloc _)
  have HB1 : Hid (Blk W1 bx (x.box (.slice ra n rc)) 35) := Lib.hid (by rw [← hW1, ← Hbx.out]; exact Blk.new w _ _)
  have HJ1 := Lib.hid (J.out.ext O HX1.out)
  have Hr1 := Lib.hid (Hr.out.ext HX1.out)
  have HW1 := Lib.hid hW1
  have Hs1 : Hid (bx < W1.heap.size) := Lib.hid HB1.out.lt
  have c0 : W1.cell? ⟨bx, 0, none⟩ = some (.int .i64 x.kind) := (HB1.out.cell 0).trans rfl
  have c1 : W1.cell? ⟨bx, 0 + 1, none⟩ = some (.int .i64 x.a) := (HB1.out.cell 1).trans rfl
  have c2 : W1.cell? ⟨bx, 0 + 2, none⟩ = some (.int .i64 x.b) := (HB1.out.cell 2).trans rfl
  unfold Ac.box at hW1
  rw [Hbx.out, hW1]
  clear hW1
  have hk : x.kind ≠ 0 ∧ x.kind ≠ 1 ∧ x.kind ≠ 2 ∧ x.kind ≠ 3 ∧ x.kind ≠ 4 ∧ x.kind ≠ 5 ∧ x.kind ≠ 6 := Hk.out
  obtain ⟨k0, k1, k2, k3, k4, k5, k6⟩ := hk
  have k0' : (x.kind == 0) = false := by simpa using k0
  have k1' : (x.kind == 1) = false := by simpa using k1
  have k2' : (x.kind == 2) = false := by simpa using k2
  have k3' : (x.kind == 3) = false := by simpa using k3
  have k4' : (x.kind == 4) = false := by simpa using k4
  have k5' : (x.kind == 5) = false := by simpa using k5
  have k6' : (x.kind == 6) = false := by simpa using k6
  clear k0 k1 k2 k3 k4 k5 k6
  go_wp2_with fail
  rw [← HM.out]
  exact ⟨rfl, h, P, r, HJ1.out, HX1.out.mono fun _ _ h => h.elim⟩

set_option maxRecDepth 100000 in
set_option maxHeartbeats 8000000 in
theorem did_c {base : Nat} {v : Value} {St : World → LH → (Nat → Prop) → Prop} (O : Ops base v St) {w : World} {h : LH} {P : Nat → Prop} {r : RH} (j : Joint base St r.rp w h P r) (x : Ac) {ra : Option Addr} {rc : Nat}
    (hr : RdW w (.slice ra x.roots.length rc) x.roots) (hap : x.roots ≠ [] → ∀ k, (Value.slice ra x.roots.length rc).ownBlock = some k → ¬ P k ∧ ¬ r.fp k) (hl : x.roots.length ≤ 1048576) (hk : x.kind = 3 ∨ x.kind = 4 ∨ x.kind = 5) :
    Calls Try.prog 32 #[v, .pointer (some ⟨r.rp, 0, none⟩), .agg (x.box (.slice ra x.roots.length rc))] w (DidR base St r.rp w P r) := by
  obtain ⟨n, hn⟩ : ∃ n, x.roots.length = n := ⟨_, rfl⟩
  obtain ⟨bx, hbx⟩ : ∃ bx, w.heap.size = bx := ⟨_, rfl⟩
  have hPlt := O.lt j.st
  have hRlt := j.ref.fp_lt
  rw [hbx] at hPlt hRlt
  have HPn : Hid (¬ P bx ∧ ¬ r.fp bx) := Lib.hid ⟨fun hp => by have := hPlt bx hp; omega, fun hp => by have := hRlt bx hp; omega⟩
  have HPl := Lib.hid hPlt; have HRl := Lib.hid hRlt; have Hn := Lib.hid hn; have Hbx := Lib.hid hbx
  have J := Lib.hid j; have Hr := Lib.hid hr; have Hap := Lib.hid hap; have Hk := Lib.hid hk
  generalize hM : DidR base St r.rp w P r = M
  have HM := Lib.hid hM
  unfold Ac.box
  rw [hn]
  clear hPlt hRlt hbx j hr hap hM hn hk
  go_enter Try.func32, Try.ntmps32
  go_upto_region 1 with fail
  obtain ⟨W1, hW1⟩ : ∃ W1, w.alloc (.cells (x.box (.slice ra n rc)) 35) = W1 := ⟨_, rfl⟩
  have HX1 : Hid (Ext w W1) := Lib.hid (by rw [← hW1]; exact (Ext.refl w).alloc _)
  have HB1 : Hid (Blk W1 bx (x.box (.slice ra n rc)) 35) := Lib.hid (by rw [← hW1, ← Hbx.out]; exact Blk.new w _ _)
  have HJ1 := Lib.hid (J.out.ext O HX1.out)
  have Hr1 := Lib.hid (Hr.out.ext HX1.out)
  have HW1 := Lib.hid hW1
  have Hs1 : Hid (bx < W1.heap.size) := Lib.hid HB1.out.lt
  have c0 : W1.cell? ⟨bx, 0, none⟩ = some (.int .i64 x.kind) := (HB1.out.cell 0).trans rfl
  have c1 : W1.cell? ⟨bx, 0 + 1, none⟩ = some (.int .i64 x.a) := (HB1.out.cell 1).trans rfl
  have c2 : W1.cell? ⟨bx, 0 + 2, none⟩ = some (.int .i64 x.b) := (HB1.out.cell 2).trans rfl
  unfold Ac.box at hW1
  rw [Hbx.out, hW1]
  clear hW1
  have hk : x.kind = 3 ∨ x.kind = 4 ∨ x.kind = 5 := Hk.out
  have c3 : W1.cell? ⟨bx, 3, none⟩ = some (.int .i64 x.w.tag) := (HB1.out.cell 3).trans rfl
  have c4 : W1.cell? ⟨bx, 4, none⟩ = some (.int .i64 x.w.a) := (HB1.out.cell 4).trans rfl
  have c5 : W1.cell? ⟨bx, 5, none⟩ = some (.int .i64 x.w.b) := (HB1.out.cell 5).trans rfl
  have c6 : W1.cell? ⟨bx, 6, none⟩ = some (.string x.w.text) := (HB1.out.cell 6).trans rfl
  have c7 : W1.cell? ⟨bx, 7, none⟩ = some (.int .i64 x.w.man) := (HB1.out.cell 7).trans rfl
  have c8 : W1.cell? ⟨bx, 8, none⟩ = some (.int .i64 x.w.exp) := (HB1.out.cell 8).trans rfl
  have c9 : W1.cell? ⟨bx, 9, none⟩ = some (.slice ra n rc) := (HB1.out.cell 9).trans rfl
  have c10 : W1.cell? ⟨bx, 10, none⟩ = some (.bool x.near) := (HB1.out.cell 10).trans rfl
  have HC := Lib.hid (collected_any O HJ1.out x Hr1.out Hap.out hl)
  rw [Hn.out] at HC
  unfold Ac.box at HC
  have k0' : (x.kind == 0) = false := by simp; omega
  have k1' : (x.kind == 1) = false := by simp; omega
  have k2' : (x.kind == 2) = false := by simp; omega
  have Hk2 := Lib.hid hk
  clear hk
  by_cases k3 : x.kind = 3
  · have k3' : (x.kind == 3) = true := by simpa using k3
    clear k3
    go_wp2_with fail
    refine HC.out.mono ?_
    rintro e w2 ⟨rfl, h', P', r', hJ, hK⟩
    have HJ := Lib.hid hJ; have HK := Lib.hid hK
    clear hJ hK HC c0 c1 c2 c3 c4 c5 c6 c7 c8 c9 c10
    go_wp2_with fail
    rw [← HM.out]
    exact ⟨rfl, h', P', r', HJ.out, (HX1.out.mono fun _ _ h => h.elim : Keeps (fun k => P k ∨ r.fp k) w W1).trans HK.out⟩
  have k3' : (x.kind == 3) = false := by simpa using k3
  by_cases k4 : x.kind = 4
  · have k4' : (x.kind == 4) = true := by simpa using k4
    clear k4 k3
    go_wp2_with fail
    refine HC.out.mono ?_
    rintro e w2 ⟨rfl, h', P', r', hJ, hK⟩
    have HJ := Lib.hid hJ; have HK := Lib.hid hK
    clear hJ hK HC c0 c1 c2 c3 c4 c5 c6 c7 c8 c9 c10
    go_wp2_with fail
    rw [← HM.out]
    exact ⟨rfl, h', P', r', HJ.out, (HX1.out.mono fun _ _ h => h.elim : Keeps (fun k => P k ∨ r.fp k) w W1).trans HK.out⟩
  have k4' : (x.kind == 4) = false := by simpa using k4
  have k5' : (x.kind == 5) = true := by have := Hk2.out; simp; omega
  clear k3 k4
  go_wp2_with fail
  refine HC.out.mono ?_
  rintro e w2 ⟨rfl, h', P', r', hJ, hK⟩
  have HJ := Lib.hid hJ; have HK := Lib.hid hK
  clear hJ hK HC c0 c1 c2 c3 c4 c5 c6 c7 c8 c9 c10
  go_wp2_with fail
  rw [← HM.out]
  exact ⟨rfl, h', P', r', HJ.out, (HX1.out.mono fun _ _ h => h.elim : Keeps (fun k => P k ∨ r.fp k) w W1).trans HK.out⟩

set_option maxRecDepth 100000 in
set_option maxHeartbeats 8000000 in
theorem did_6 {base : Nat} {v : Value} {St : World → LH → (Nat → Prop) → Prop} (O : Ops base v St) {w : World} {h : LH} {P : Nat → Prop} {r : RH} (j : Joint base St r.rp w h P r) (x : Ac) {ra : Option Addr} {rc : Nat}
    (hr : RdW w (.slice ra x.roots.length rc) x.roots) (hap : x.roots ≠ [] → ∀ k, (Value.slice ra x.roots.length rc).ownBlock = some k → ¬ P k ∧ ¬ r.fp k) (hl : x.roots.length ≤ 1048576) (hk : x.kind = 6) :
    Calls Try.prog 32 #[v, .pointer (some ⟨r.rp, 0, none⟩), .agg (x.box (.slice ra x.roots.length rc))] w (DidR base St r.rp w P r) := by
  obtain ⟨n, hn⟩ : ∃ n, x.roots.length = n := ⟨_, rfl⟩
  obtain ⟨bx, hbx⟩ : ∃ bx, w.heap.size = bx := ⟨_, rfl⟩
  have hPlt := O.lt j.st
  have hRlt := j.ref.fp_lt
  rw [hbx] at hPlt hRlt
  have HPn : Hid (¬ P bx ∧ ¬ r.fp bx) := Lib.hid ⟨fun hp => by have := hPlt bx hp; omega, fun hp => by have := hRlt bx hp; omega⟩
  have HPl := Lib.hid hPlt; have HRl := Lib.hid hRlt; have Hn := Lib.hid hn; have Hbx := Lib.hid hbx
  have J := Lib.hid j; have Hr := Lib.hid hr; have Hap := Lib.hid hap; have Hk := Lib.hid hk
  generalize hM : DidR base St r.rp w P r = M
  have HM := Lib.hid hM
  unfold Ac.box
  rw [hn]
  clear hPlt hRlt hbx j hr hap hM hn hk
  go_enter Try.func32, Try.ntmps32
  go_upto_region 1 with fail
  obtain ⟨W1, hW1⟩ : ∃ W1, w.alloc (.cells (x.box (.slice ra n rc)) 35) = W1 := ⟨_, rfl⟩
  have HX1 : Hid (Ext w W1) := Lib.hid (by rw [← hW1]; exact (Ext.refl w).alloc _)
  have HB1 : Hid (Blk W1 bx (x.box (.slice ra n rc)) 35) := Lib.hid (by rw [← hW1, ← Hbx.out]; exact Blk.new w _ _)
  have HJ1 := Lib.hid (J.out.ext O HX1.out)
  have Hr1 := Lib.hid (Hr.out.ext HX1.out)
  have HW1 := Lib.hid hW1
  have Hs1 : Hid (bx < W1.heap.size) := Lib.hid HB1.out.lt
  have c0 : W1.cell? ⟨bx, 0, none⟩ = some (.int .i64 x.kind) := (HB1.out.cell 0).trans rfl
  have c1 : W1.cell? ⟨bx, 0 + 1, none⟩ = some (.int .i64 x.a) := (HB1.out.cell 1).trans rfl
  have c2 : W1.cell? ⟨bx, 0 + 2, none⟩ = some (.int .i64 x.b) := (HB1.out.cell 2).trans rfl
  unfold Ac.box at hW1
  rw [Hbx.out, hW1]
  clear hW1
  have hk : x.kind = 6 := Hk.out
  rw [hk] at c0
  clear hk
  have HCb0 := RBlock_any HJ1.out.ref x.a
  unfold RBlockR at HCb0
  have hFind : h.find x.a = (r.find x.a).map RB.b := by rw [HJ1.out.cpl.find, RH.find_log]
  have hHY : h.Y = r.Y := HJ1.out.cpl.Y
  have HCk : Hid (∀ V, Joint base St r.rp V h P r → Calls Try.prog 56 #[v, .int .i64 x.a] V fun e w' => e = .returned (.tuple #[.int .i64 (kindL ((r.find x.a).map RB.b)).1, .int .i64 (kindL ((r.find x.a).map RB.b)).2]) ∧ Ext V w') := Lib.hid fun V hV => by rw [← hFind]; exact O.kind hV.st x.a
  have HCs : Hid (∀ V, Joint base St r.rp V h P r → Calls Try.prog 57 #[v, .int .i64 x.a] V fun e w' => e = .returned (.tuple #[.int .i64 (sizeL ((r.find x.a).map RB.b)).1, .int .i64 (sizeL ((r.find x.a).map RB.b)).2]) ∧ Ext V w') := Lib.hid fun V hV => by rw [← hFind]; exact O.size hV.st x.a
  have HCy : Hid (∀ V, Joint base St r.rp V h P r → Calls Try.prog 27 #[v, .int .i64 x.a] V fun e w' => e = .returned (.tuple #[.bool (youngL r.Y ((r.find x.a).map RB.b)).1, .int .i64 (youngL r.Y ((r.find x.a).map RB.b)).2]) ∧ Ext V w') := Lib.hid fun V hV => by rw [← hFind, ← hHY]; exact O.young hV.st x.a
  clear hFind hHY
  cases hf : r.find x.a with
  | none =>
    rw [hf] at HCb0 HCk HCs HCy
    have HCb := Lib.hid HCb0
    unfold blkV blkE at HCb
    clear HCb0 hf
    go_wp2_with fail
    refine HCb.out.mono ?_
    rintro e w2 ⟨rfl, hx2⟩
    have HX2 := Lib.hid hx2
    have HB2 := Lib.hid (hx2.blk HB1.out id)
    have HJ2 := Lib.hid (HJ1.out.ext O hx2)
    clear c0 c1 c2 hx2 HCb
    go_upto_region 18 with fail
    obtain ⟨b2, hb2⟩ : ∃ b2, w2.heap.size = b2 := ⟨_, rfl⟩
    obtain ⟨W3, hW3⟩ : ∃ W3, w2.alloc (.cells #[.int .i64 0, .int .i64 0, .slice none 0 0] 49) = W3 := ⟨_, rfl⟩
    have HX3 : Hid (Ext w2 W3) := Lib.hid (by rw [← hW3]; exact (Ext.refl w2).alloc _)
    have HU3 : Hid (Blk W3 b2 #[.int .i64 0, .int .i64 0, .slice none 0 0] 49) := Lib.hid (by rw [← hW3, ← hb2]; exact Blk.new w2 _ _)
    rw [hb2, hW3]
    clear hb2 hW3
    have HB3 := Lib.hid (HX3.out.blk HB2.out id)
    have HJ3 := Lib.hid (HJ2.out.ext O HX3.out)
    have HE3 := Lib.hid ((HX1.out.trans HX2.out).trans HX3.out)
    have HC3 := Lib.hid (HCk.out _ HJ3.out)
    clear HB2 HJ2 HX2 HX3 HCk
    simp only [kindL, Option.map] at HC3
    have c1 : W3.cell? ⟨bx, 0 + 1, none⟩ = some (.int .i64 x.a) := (HB3.out.cell 1).trans rfl
    go_wp2_with fail
    refine HC3.out.mono ?_
    rintro e w4 ⟨rfl, hx4⟩
    have HU4 := Lib.hid (hx4.blk HU3.out id)
    have HB4 := Lib.hid (hx4.blk HB3.out id)
    have HJ4 := Lib.hid (HJ3.out.ext O hx4)
    have HX4 := Lib.hid (HE3.out.trans hx4)
    have HC4 := Lib.hid (HCs.out _ HJ4.out)
    clear c1 HU3 HB3 HJ3 hx4 HC3 HCs HE3
    simp only [sizeL, Option.map] at HC4
    have c1 : w4.cell? ⟨bx, 0 + 1, none⟩ = some (.int .i64 x.a) := (HB4.out.cell 1).trans rfl
    go_wp2_with fail
    refine HC4.out.mono ?_
    rintro e w5 ⟨rfl, hx5⟩
    have HU5 := Lib.hid (hx5.blk HU4.out id)
    have HB5 := Lib.hid (hx5.blk HB4.out id)
    have HJ5 := Lib.hid (HJ4.out.ext O hx5)
    have HX5 := Lib.hid (HX4.out.trans hx5)
    have HC5 := Lib.hid (HCy.out _ HJ5.out)
    clear c1 HU4 HB4 HJ4 hx5 HC4 HCy HX4
    simp only [youngL, Option.map] at HC5
    have c1 : w5.cell? ⟨bx, 0 + 1, none⟩ = some (.int .i64 x.a) := (HB5.out.cell 1).trans rfl
    go_wp2_with fail
    refine HC5.out.mono ?_
    rintro e w6 ⟨rfl, hx6⟩
    have HU6 := Lib.hid (hx6.blk HU5.out id)
    have HB6 := Lib.hid (hx6.blk HB5.out id)
    have HJ6 := Lib.hid (HJ5.out.ext O hx6)
    have HX6 := Lib.hid (HX5.out.trans hx6)
    clear c1 HU5 HB5 HJ5 hx6 HC5 HX5
    go_upto_region 21 with fail
    have n1 : w6.cell? ⟨b2, 0 + 1, none⟩ = some (.int .i64 0) := (HU6.out.cell 1).trans rfl
    have n2 : w6.cell? ⟨b2, 0 + 2, none⟩ = some (.slice none 0 0) := (HU6.out.cell 2).trans rfl
    have y0 : w6.cell? ⟨r.rp, 0, none⟩ = some (.int .i64 r.Y) := HJ6.out.ref.c0
    have c1 : w6.cell? ⟨bx, 0 + 1, none⟩ = some (.int .i64 x.a) := (HB6.out.cell 1).trans rfl
    go_big_region
    go_wp2_with fail
    rw [← HM.out]
    exact ⟨rfl, h, P, r, HJ6.out.ext O (Ext.refl w6).drew, (HX6.out.drew).mono fun _ _ h => h.elim⟩
  | some y =>
    have Hya : Hid (y.b.at_ = x.a) := Lib.hid (RH.find_mem hf).2
    have Hyl : Hid (y.b.ws.length ≤ 1000) := Lib.hid (J.out.ref.len (by rw [RH.log_all]; exact List.mem_map_of_mem (RH.find_mem hf).1))
    rw [hf] at HCb0 HCk HCs HCy
    have HCb := Lib.hid HCb0
    unfold blkV blkE at HCb
    clear HCb0 hf
    go_wp2_with fail
    refine HCb.out.mono ?_
    rintro e w2 ⟨rfl, hx2⟩
    have HX2 := Lib.hid hx2
    have HB2 := Lib.hid (hx2.blk HB1.out id)
    have HJ2 := Lib.hid (HJ1.out.ext O hx2)
    clear c0 c1 c2 hx2 HCb
    unfold RB.sl
    go_upto_region 18 with fail
    obtain ⟨b2, hb2⟩ : ∃ b2, w2.heap.size = b2 := ⟨_, rfl⟩
    obtain ⟨W3, hW3⟩ : ∃ W3, w2.alloc (.cells #[.int .i64 y.b.at_, .int .i64 y.b.kind, .slice (some ⟨y.arr, 0, none⟩) y.b.ws.length y.b.ws.length] 49) = W3 := ⟨_, rfl⟩
    have HX3 : Hid (Ext w2 W3) := Lib.hid (by rw [← hW3]; exact (Ext.refl w2).alloc _)
    have HU3 : Hid (Blk W3 b2 #[.int .i64 y.b.at_, .int .i64 y.b.kind, .slice (some ⟨y.arr, 0, none⟩) y.b.ws.length y.b.ws.length] 49) := Lib.hid (by rw [← hW3, ← hb2]; exact Blk.new w2 _ _)
    rw [hb2, hW3]
    clear hb2 hW3
    have HB3 := Lib.hid (HX3.out.blk HB2.out id)
    have HJ3 := Lib.hid (HJ2.out.ext O HX3.out)
    have HE3 := Lib.hid ((HX1.out.trans HX2.out).trans HX3.out)
    have HC3 := Lib.hid (HCk.out _ HJ3.out)
    clear HB2 HJ2 HX2 HX3 HCk
    simp only [kindL, Option.map] at HC3
    have c1 : W3.cell? ⟨bx, 0 + 1, none⟩ = some (.int .i64 x.a) := (HB3.out.cell 1).trans rfl
    go_wp2_with fail
    refine HC3.out.mono ?_
    rintro e w4 ⟨rfl, hx4⟩
    have HU4 := Lib.hid (hx4.blk HU3.out id)
    have HB4 := Lib.hid (hx4.blk HB3.out id)
    have HJ4 := Lib.hid (HJ3.out.ext O hx4)
    have HX4 := Lib.hid (HE3.out.trans hx4)
    have HC4 := Lib.hid (HCs.out _ HJ4.out)
    clear c1 HU3 HB3 HJ3 hx4 HC3 HCs HE3
    simp only [sizeL, Option.map] at HC4
    have c1 : w4.cell? ⟨bx, 0 + 1, none⟩ = some (.int .i64 x.a) := (HB4.out.cell 1).trans rfl
    go_wp2_with fail
    refine HC4.out.mono ?_
    rintro e w5 ⟨rfl, hx5⟩
    have HU5 := Lib.hid (hx5.blk HU4.out id)
    have HB5 := Lib.hid (hx5.blk HB4.out id)
    have HJ5 := Lib.hid (HJ4.out.ext O hx5)
    have HX5 := Lib.hid (HX4.out.trans hx5)
    have HC5 := Lib.hid (HCy.out _ HJ5.out)
    clear c1 HU4 HB4 HJ4 hx5 HC4 HCy HX4
    simp only [youngL, Option.map] at HC5
    have c1 : w5.cell? ⟨bx, 0 + 1, none⟩ = some (.int .i64 x.a) := (HB5.out.cell 1).trans rfl
    go_wp2_with fail
    refine HC5.out.mono ?_
    rintro e w6 ⟨rfl, hx6⟩
    have HU6 := Lib.hid (hx6.blk HU5.out id)
    have HB6 := Lib.hid (hx6.blk HB5.out id)
    have HJ6 := Lib.hid (HJ5.out.ext O hx6)
    have HX6 := Lib.hid (HX5.out.trans hx6)
    clear c1 HU5 HB5 HJ5 hx6 HC5 HX5
    go_upto_region 21 with fail
    have n1 : w6.cell? ⟨b2, 0 + 1, none⟩ = some (.int .i64 y.b.kind) := (HU6.out.cell 1).trans rfl
    have n2 : w6.cell? ⟨b2, 0 + 2, none⟩ = some (.slice (some ⟨y.arr, 0, none⟩) y.b.ws.length y.b.ws.length) := (HU6.out.cell 2).trans rfl
    have y0 : w6.cell? ⟨r.rp, 0, none⟩ = some (.int .i64 r.Y) := HJ6.out.ref.c0
    have c1 : w6.cell? ⟨bx, 0 + 1, none⟩ = some (.int .i64 x.a) := (HB6.out.cell 1).trans rfl
    rw [Hya.out]
    obtain ⟨kd, hkd⟩ : ∃ kd, y.b.kind = kd := ⟨_, rfl⟩
    rw [hkd] at n1 ⊢
    clear hkd
    have hyl : y.b.ws.length ≤ 1000 := Hyl.out
    by_cases hle : x.a ≤ r.Y
    · rw [decide_eq_true hle]
      go_big_region
      go_wp2_with fail
      rw [← HM.out]
      exact ⟨rfl, h, P, r, HJ6.out.ext O (Ext.refl w6).drew, (HX6.out.drew).mono fun _ _ h => h.elim⟩
    · rw [decide_eq_false hle]
      go_big_region
      go_wp2_with fail
      rw [← HM.out]
      exact ⟨rfl, h, P, r, HJ6.out.ext O (Ext.refl w6).drew, (HX6.out.drew).mono fun _ _ h => h.elim⟩

theorem did_any {base : Nat} {v : Value} {St : World → LH → (Nat → Prop) → Prop} (O : Ops base v St) {w : World} {h : LH} {P : Nat → Prop} {r : RH} (j : Joint base St r.rp w h P r) (x : Ac) {ra : Option Addr} {rc : Nat}
    (hr : RdW w (.slice ra x.roots.length rc) x.roots) (hap : x.roots ≠ [] → ∀ k, (Value.slice ra x.roots.length rc).ownBlock = some k → ¬ P k ∧ ¬ r.fp k) (hl : x.roots.length ≤ 1048576) :
    Calls Try.prog 32 #[v, .pointer (some ⟨r.rp, 0, none⟩), .agg (x.box (.slice ra x.roots.length rc))] w (DidR base St r.rp w P r) := by
  by_cases k0 : x.kind = 0
  · exact did_0 O j x hr hap hl k0
  by_cases k1 : x.kind = 1
  · exact did_1 O j x hr hap hl k1
  by_cases k2 : x.kind = 2
  · exact did_2 O j x hr hap hl k2
  by_cases k3 : x.kind = 3 ∨ x.kind = 4 ∨ x.kind = 5
  · exact did_c O j x hr hap hl k3
  by_cases k6 : x.kind = 6
  · exact did_6 O j x hr hap hl k6
  exact did_x O j x hr hap hl ⟨k0, k1, k2, by omega, by omega, by omega, k6⟩
end Go.Proofs.Ytikigppfnhilhaa
