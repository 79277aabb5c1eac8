/- Alloc of the reference: the walk. -/
import Derived.Test.YtikigppfnhilhaaGPD38
/- Alloc of the reference: the walk. -/
namespace Go.Proofs.Ytikigppfnhilhaa
open Go.RowKit Go.Instr
set_option linter.unusedVariables false
set_option linter.unusedSimpArgs false
attribute [local go_sem] Oper.semAt_some

def RAllocR (w : World) (base : Nat) (r : RH) (h : LH) (kind size : Int) (e : Ending) (w' : World) : Prop :=
  e = .returned (.tuple #[.int .i64 (h.alloc kind size).2.1, .int .i64 (h.alloc kind size).2.2]) ∧ RStep w base r (h.alloc kind size).1 w'
theorem RAlloc_arg {w : World} {base : Nat} {r : RH} {h : LH} (hr : RRep w base r) (c : Cpl h r) (kind size : Int) (hb : kind < 0 ∨ 255 < kind ∨ size < 0 ∨ 2000 < size) :
    Calls Try.prog 51 #[.pointer (some ⟨r.rp, 0, none⟩), .int .i64 kind, .int .i64 size] w (RAllocR w base r h kind size) := by
  have hal : h.alloc kind size = (h, 0, 1) := by unfold LH.alloc; rw [if_pos hb]
  have HS : Hid (RAllocR w base r h kind size (.returned (.tuple #[.int .i64 0, .int .i64 1])) w) := Lib.hid (by
    unfold RAllocR; rw [hal]; exact ⟨rfl, RStep.same hr c (Ext.refl w)⟩)
  generalize RAllocR w base r h kind size = M at HS ⊢
  clear hal hr c
  go_enter Try.func51, Try.ntmps51
  go_wp2_with fail
  all_goals first
    | exact HS.out
    | (exfalso; omega)
set_option maxRecDepth 100000 in
set_option maxHeartbeats 8000000 in
theorem RAlloc_y {w : World} {base : Nat} {r : RH} {h : LH} (hr : RRep w base r) (c : Cpl h r) (kind : Int) (n : Nat) (h1 : 0 ≤ kind) (h2 : kind ≤ 255) (h3 : n ≤ 2000) (h4 : (n : Int) + 1 ≤ r.Y) :
    Calls Try.prog 51 #[.pointer (some ⟨r.rp, 0, none⟩), .int .i64 kind, .int .i64 n] w (RAllocR w base r h kind n) := by
  have hmk := run_makeW n (by omega)
  generalize hM : RAllocR w base r h kind n = M
  have HM := Lib.hid hM
  have H := Lib.hid hr; have C := Lib.hid c
  have hk0 : ¬ kind < 0 := by omega
  have hk1 : ¬ 255 < kind := by omega
  have hn1 : (n : Int) ≤ 2000 := by omega
  have hl : r.log.yb.length ≤ 1000000 := Nat.le_trans hr.ylen (by omega)
  have q1 : bused r.log.yb ≤ r.Y := hr.ok.uy
  have q2 := bused_nonneg r.log.yb
  have q3 := hr.Y1
  have q4 := hr.Y1
  have q5 : 0 ≤ r.Y := hr.ok.Y0
  have hu : bused r.log.yb ≤ 1000000 := by omega
  clear hM hr c
  go_enter Try.func51, Try.ntmps51
  obtain ⟨ar, har⟩ : ∃ ar, w.heap.size = ar := ⟨_, rfl⟩
  obtain ⟨bb, hbb⟩ : ∃ bb, ar + 1 = bb := ⟨_, rfl⟩
  go_upto_region 4 with fail
  obtain ⟨W1, hW1⟩ : ∃ W1, (w.alloc (.cells (flat (List.replicate n wd0)) 33)).alloc (.cells #[.int .i64 0, .int .i64 kind, .slice (some ⟨ar, 0, none⟩) n n] 49) = W1 := ⟨_, rfl⟩
  have HX1 : Hid (Ext w W1) := Lib.hid (by rw [← hW1]; exact ((Ext.refl w).alloc _).alloc _)
  have HBa : Hid (Blk W1 ar (flat (List.replicate n wd0)) 33) := Lib.hid (by rw [← hW1, ← har]; exact (Blk.new w _ _).alloc _)
  have HBb : Hid (Blk W1 bb #[.int .i64 0, .int .i64 kind, .slice (some ⟨ar, 0, none⟩) n n] 49) := Lib.hid (by
    have := Blk.new (w.alloc (.cells (flat (List.replicate n wd0)) 33)) #[.int .i64 0, .int .i64 kind, .slice (some ⟨ar, 0, none⟩) n n] 49
    rw [← hW1, ← hbb, ← har] at *; simpa using this)
  have Har := Lib.hid har; have Hbb := Lib.hid hbb
  first | rw [hW1] | skip
  clear hW1 hmk
  have y0 : W1.cell? ⟨r.rp, 0, none⟩ = some (.int .i64 r.Y) := (H.out.ext HX1.out).c0
  have c2 : W1.cell? ⟨r.rp, 0 + 2, none⟩ = some r.ya := (H.out.ext HX1.out).c2
  have c3 : W1.cell? ⟨r.rp, 0 + 3, none⟩ = some r.oa := (H.out.ext HX1.out).c3
  have k0 : W1.cell? ⟨bb, 0, none⟩ = some (.int .i64 0) := (HBb.out.cell 0).trans rfl
  have f0 := HBb.out.frozen 0
  clear har hbb
  go_wp2_with fail
  refine (Rused_to (H.out.ext HX1.out).rdy hl hu).mono ?_
  rintro e W1b ⟨rfl, rfl⟩
  go_upto_region 6 with fail
  obtain ⟨W2, hW2⟩ : ∃ W2, W1.setCell ⟨bb, 0, none⟩ (.int .i64 (1 + bused r.log.yb)) = W2 := ⟨_, rfl⟩
  have HX2 : Hid (Ext w W2) := Lib.hid (by rw [← hW2]; exact HX1.out.setCell (p := ⟨bb, 0, none⟩) (.inr (by have := Har.out; have := Hbb.out; show w.heap.size ≤ bb; omega)) _)
  have HBa2 : Hid (Blk W2 ar (flat (List.replicate n wd0)) 33) := Lib.hid (by rw [← hW2]; exact HBa.out.far (a := ⟨bb, 0, none⟩) (by have := Hbb.out; show ar ≠ bb; omega) _)
  have HBb2 : Hid (Blk W2 bb #[.int .i64 (1 + bused r.log.yb), .int .i64 kind, .slice (some ⟨ar, 0, none⟩) n n] 49) := Lib.hid (by rw [← hW2]; have := HBb.out.set 0 (.int .i64 (1 + bused r.log.yb)); simpa using this)
  rw [hW2]
  clear hW2 y0 c3 k0 f0
  have y0 : W2.cell? ⟨r.rp, 0, none⟩ = some (.int .i64 r.Y) := (H.out.ext HX2.out).c0
  have o0 : W2.cell? ⟨r.rp, 0 + 1, none⟩ = some (.int .i64 r.O) := (H.out.ext HX2.out).c1
  have c2 : W2.cell? ⟨r.rp, 0 + 2, none⟩ = some r.ya := (H.out.ext HX2.out).c2
  have c3 : W2.cell? ⟨r.rp, 0 + 3, none⟩ = some r.oa := (H.out.ext HX2.out).c3
  have Hrd := Lib.hid (H.out.ext HX2.out).rdy
  by_cases hfull : r.Y < bused r.log.yb + n + 1
  · have hal : h.alloc kind n = (h, 0, 2) := by
      unfold LH.alloc
      rw [if_neg (by omega)]
      rw [show h.Y = r.Y from C.out.Y, show h.O = r.O from C.out.O, show h.yb = r.log.yb from C.out.yb, if_pos h4, if_neg (by omega)]
    have Hal := Lib.hid hal
    clear hal
    go_quiet ((go_at_call 73; ((with_reducible refine Calls.quiet_of_same (Rused_same (v := r.ya) (bs := r.log.yb) ?_ hl hu)); exact Hrd.out.ext ((Ext.refl W2).drewN _))))
    go_wp2_with fail
    rw [← HM.out]
    refine ⟨by rw [Hal.out]; try rfl, ?_⟩
    rw [Hal.out]
    exact RStep.same H.out C.out (HX2.out.drewN _)
  · have hal : h.alloc kind n = ({ h with yb := h.yb ++ [⟨(1 + bused r.log.yb), kind, List.replicate n wd0⟩] }, (1 + bused r.log.yb), 0) := by
      unfold LH.alloc
      rw [if_neg (by omega)]
      rw [show h.Y = r.Y from C.out.Y, show h.O = r.O from C.out.O, show h.yb = r.log.yb from C.out.yb, if_pos h4, if_pos (by omega)]
      simp
    have Hal := Lib.hid hal
    have hfull2 : bused r.log.yb + n + 1 ≤ r.Y := by omega
    clear hal hfull
    go_quiet ((go_at_call 73; ((with_reducible refine Calls.quiet_of_same (Rused_same (v := r.ya) (bs := r.log.yb) ?_ hl hu)); exact Hrd.out.ext ((Ext.refl W2).drewN _))))
    go_upto_region 8 with fail
    obtain ⟨i0, hi, hz0, hz1, hz2⟩ := info_parts info_Block
    have HX3 : Hid (Ext w (W2.drewN nq).drew) := Lib.hid (HX2.out.drewN nq).drew
    have HBa3 : Hid (Blk (W2.drewN nq).drew ar (flat (List.replicate n wd0)) 33) := HBa2
    have HBb3 : Hid (Blk (W2.drewN nq).drew bb #[.int .i64 (1 + bused r.log.yb), .int .i64 kind, .slice (some ⟨ar, 0, none⟩) n n] 49) := HBb2
    have HS : Hid ((W2.drewN nq).drew.cell? ⟨r.rp, 2, none⟩ = some r.ya ∧ (W2.drewN nq).drew.cell? ⟨bb, 0, none⟩ = some (.int .i64 (1 + bused r.log.yb)) ∧ (W2.drewN nq).drew.cell? ⟨bb, 1, none⟩ = some (.int .i64 kind) ∧ (W2.drewN nq).drew.cell? ⟨bb, 2, none⟩ = some (.slice (some ⟨ar, 0, none⟩) n n)) :=
      Lib.hid ⟨(H.out.ext HX3.out).c2, (HBb3.out.cell 0).trans rfl, (HBb3.out.cell 1).trans rfl, (HBb3.out.cell 2).trans rfl⟩
    refine region_S_plain (n := 3) (fun V => V.cell? ⟨r.rp, 2, none⟩ = some r.ya ∧ V.cell? ⟨bb, 0, none⟩ = some (.int .i64 (1 + bused r.log.yb)) ∧ V.cell? ⟨bb, 1, none⟩ = some (.int .i64 kind) ∧ V.cell? ⟨bb, 2, none⟩ = some (.slice (some ⟨ar, 0, none⟩) n n)) 10 (by kernel_rfl) ?_
    clear y0 o0 c2 c3
    generalize (W2.drewN nq).drew = W3 at HX3 HBa3 HBb3 HS ⊢
    refine anyS_quiet (a2 := ?a0) 0 rfl rfl rfl (by kernel_rfl) (by kernel_rfl) (by kernel_rfl) (by kernel_rfl) (by kernel_rfl) (by kernel_rfl) (fun _ _ _ _ h => h) HS.out ?h0 ?k0
    case h0 => intro W hW K hK; obtain ⟨d0, d1, d2, d3⟩ := hW; go_simp; exact hK
    refine anyS_quiet (a2 := ?a1) 1 rfl rfl rfl (by kernel_rfl) (by kernel_rfl) (by kernel_rfl) (by kernel_rfl) (by kernel_rfl) (by kernel_rfl) (fun _ _ _ _ h => h) HS.out ?h1 ?k1
    case h1 => intro W hW K hK; obtain ⟨d0, d1, d2, d3⟩ := hW; go_simp; exact hK
    refine anyS_quiet (a2 := ?a2) 2 rfl rfl rfl (by kernel_rfl) (by kernel_rfl) (by kernel_rfl) (by kernel_rfl) (by kernel_rfl) (by kernel_rfl) (fun _ _ _ _ h => h) HS.out ?h2 ?k2
    case h2 => intro W hW K hK; obtain ⟨d0, d1, d2, d3⟩ := hW; go_simp; exact hK
    refine anyS_quiet (a2 := ?a3) 3 rfl rfl rfl (by kernel_rfl) (by kernel_rfl) (by kernel_rfl) (by kernel_rfl) (by kernel_rfl) (by kernel_rfl) (fun _ _ _ _ h => h) HS.out ?h3 ?k3
    case h3 => intro W hW K hK; obtain ⟨d0, d1, d2, d3⟩ := hW; go_simp; exact hK
    refine anyS_quiet (a2 := ?a4) 4 rfl rfl rfl (by kernel_rfl) (by kernel_rfl) (by kernel_rfl) (by kernel_rfl) (by kernel_rfl) (by kernel_rfl) (fun _ _ _ _ h => h) HS.out ?h4 ?k4
    case h4 => intro W hW K hK; obtain ⟨d0, d1, d2, d3⟩ := hW; go_simp; exact hK
    refine anyS_quiet (a2 := ?a5) 5 rfl rfl rfl (by kernel_rfl) (by kernel_rfl) (by kernel_rfl) (by kernel_rfl) (by kernel_rfl) (by kernel_rfl) (fun _ _ _ _ h => h) HS.out ?h5 ?k5
    case h5 => intro W hW K hK; obtain ⟨d0, d1, d2, d3⟩ := hW; go_simp; exact hK
    refine anyS_only 6 rfl (by kernel_rfl) ?_
    gi_wp2
    refine And.intro (by first | exact .inr ⟨cell_allocO HS.out.1 _, cell_allocO HS.out.2.1 _, cell_allocO HS.out.2.2.1 _, cell_allocO HS.out.2.2.2 _⟩ | exact ⟨cell_allocO HS.out.1 _, cell_allocO HS.out.2.1 _, cell_allocO HS.out.2.2.1 _, cell_allocO HS.out.2.2.2 _⟩) ?_
    refine anyS_only 7 rfl (by kernel_rfl) ?_
    have Hrow3 : Hid (rowR (W3.alloc (.cells #[.int .i64 (1 + bused r.log.yb), .int .i64 kind, .slice (some ⟨ar, 0, none⟩) n n] 49)) base r.ya r.yb) := Lib.hid (rowR_ext (H.out.ext HX3.out).yrow ((Ext.refl W3).alloc _))
    have Hsz3 := Lib.hid HX3.out.size
    have Hb0 := Lib.hid H.out.base_le
    have hlr : r.yb.length ≤ 1000 := by have := H.out.ylen; simpa [RH.log] using this
    refine wpListIn_append_fresh rfl _ _ 28 rfl base 49 i0 _ 3 40 Try.underlying28 hi hz0 hz1 hz2 rfl (by decide) r.ya r.yb.length _ rfl Hrow3.out ⟨W3.heap.size, 0, none⟩ 1 1 [Value.int .i64 (1 + bused r.log.yb), Value.int .i64 kind, Value.slice (some ⟨ar, 0, none⟩) n n] rfl rfl ?c1 ?c2 ?c3 ?c4 ?c5 ?_
    case c1 => exact cells_new W3 _ 49
    case c2 => simp [Value.oneCell']
    case c3 => unfold maxLen; omega
    case c4 => omega
    case c5 => simp; have := Hsz3.out; have := Hb0.out; omega
    intro v' W4 hown hgrow hnil hfresh
    obtain ⟨va, vc, rfl⟩ := own_slice hown
    have Hne : Hid (∀ k, r.ya.ownBlock = some k → k < w.heap.size ∧ k ≠ r.rp) := Lib.hid fun k hk => ⟨(H.out.yrow.lt k hk).2, by obtain ⟨cur, hc⟩ := ownsRow_type H.out.yrow hk; exact hc.ne H.out.blk (by decide)⟩
    have hk34 : Keeps (fun k => r.ya.ownBlock = some k) W3 W4 := ((Keeps.refl _ W3).alloc _).grown hgrow fun k e => .inl e
    have HK4 : Hid (Keeps (fun k => r.ya.ownBlock = some k) w W4) := Lib.hid ((HX3.out.mono fun _ _ h => h.elim : Keeps (fun k => r.ya.ownBlock = some k) w W3).trans hk34)
    have HBr4 : Hid (Blk W4 r.rp r.cells 69) := Lib.hid (HK4.out.blk H.out.blk fun e => (Hne.out _ e).2 rfl)
    have HBb4 := Lib.hid (hk34.blk HBb3.out fun e => by have := (Hne.out _ e).1; have := Har.out; have := Hbb.out; omega)
    have HBa4 := Lib.hid (hk34.blk HBa3.out fun e => by have := (Hne.out _ e).1; have := Har.out; omega)
    have Hown : Hid (rowR W4 base (.slice va (r.yb.length + 1) vc) (r.yb ++ [⟨ar, ⟨(1 + bused r.log.yb), kind, List.replicate n wd0⟩⟩])) := Lib.hid (by
      unfold rowR
      rw [bksApp, List.length_append]
      have e1 : bksCells ([(⟨ar, ⟨(1 + bused r.log.yb), kind, List.replicate n wd0⟩⟩ : RB)].map RB.b) ([(⟨ar, ⟨(1 + bused r.log.yb), kind, List.replicate n wd0⟩⟩ : RB)].map RB.sl) = [Value.int .i64 (1 + bused r.log.yb), Value.int .i64 kind, Value.slice (some ⟨ar, 0, none⟩) n n] := by simp [bksCells, bkCells, RB.sl]
      rw [e1]; exact hown)
    have Hfr : Hid (∀ k, Value.ownBlock (.slice va (r.yb.length + 1) vc) = some k → r.ya.ownBlock = some k ∨ w.heap.size ≤ k) := Lib.hid fun k hk => by
      rcases hfresh k hk with h | h
      · exact .inl h
      · exact .inr (by have := Hsz3.out; simp at h; omega)
    clear hown hgrow hnil hfresh hk34
    gi_wp2
    refine And.intro (by first | exact .inr ⟨(HBr4.out.cell 2).trans rfl, (HBb4.out.cell 0).trans rfl, (HBb4.out.cell 1).trans rfl, (HBb4.out.cell 2).trans rfl⟩ | exact ⟨(HBr4.out.cell 2).trans rfl, (HBb4.out.cell 0).trans rfl, (HBb4.out.cell 1).trans rfl, (HBb4.out.cell 2).trans rfl⟩) ?_
    have HS4 : Hid (W4.cell? ⟨r.rp, 2, none⟩ = some r.ya ∧ W4.cell? ⟨bb, 0, none⟩ = some (.int .i64 (1 + bused r.log.yb)) ∧ W4.cell? ⟨bb, 1, none⟩ = some (.int .i64 kind) ∧ W4.cell? ⟨bb, 2, none⟩ = some (.slice (some ⟨ar, 0, none⟩) n n)) :=
      Lib.hid ⟨(HBr4.out.cell 2).trans rfl, (HBb4.out.cell 0).trans rfl, (HBb4.out.cell 1).trans rfl, (HBb4.out.cell 2).trans rfl⟩
    refine anyS_quiet (a2 := ?ab_8) 8 rfl rfl rfl (by kernel_rfl) (by kernel_rfl) (by kernel_rfl) (by kernel_rfl) (by kernel_rfl) (by kernel_rfl) (fun _ _ _ _ h => h) HS4.out ?hb_8 ?kb_8
    case hb_8 => intro W hW K hK; obtain ⟨d0, d1, d2, d3⟩ := hW; go_simp; exact hK
    refine anyS_quiet (a2 := ?ab_9) 9 rfl rfl rfl (by kernel_rfl) (by kernel_rfl) (by kernel_rfl) (by kernel_rfl) (by kernel_rfl) (by kernel_rfl) (fun _ _ _ _ h => h) HS4.out ?hb_9 ?kb_9
    case hb_9 => intro W hW K hK; obtain ⟨d0, d1, d2, d3⟩ := hW; go_simp; exact hK
    refine anyS_only 10 rfl (by kernel_rfl) ?_
    have c2 : W4.cell? ⟨r.rp, 2, none⟩ = some r.ya := HS4.out.1
    have f2 := HBr4.out.frozen 2
    gi_wp2
    refine anyS_done (by kernel_rfl) ?_ _
    have b0 : (W4.setCell ⟨r.rp, 2, none⟩ (.slice va (r.yb.length + 1) vc)).cell? ⟨bb, 0, none⟩ = some (.int .i64 (1 + bused r.log.yb)) := ((HBb4.out.far (a := ⟨r.rp, 2, none⟩) (HBb4.out.ne HBr4.out (by decide)) _).cell 0).trans rfl
    go_wp2_with fail
    rw [← HM.out]
    refine ⟨by rw [Hal.out]; try rfl, ?_⟩
    rw [Hal.out]
    have hW5r : Blk (W4.setCell ⟨r.rp, 2, none⟩ (.slice va (r.yb.length + 1) vc)) r.rp ({ r with ya := .slice va (r.yb.length + 1) vc, yb := r.yb ++ [⟨ar, ⟨(1 + bused r.log.yb), kind, List.replicate n wd0⟩⟩] } : RH).cells 69 := by
      have := HBr4.out.set 2 (.slice va (r.yb.length + 1) vc)
      simpa [RH.cells] using this
    have hkF : Keeps (fun k => k = r.rp ∨ r.ya.ownBlock = some k) w (W4.setCell ⟨r.rp, 2, none⟩ (.slice va (r.yb.length + 1) vc)) := (HK4.out.mono fun _ _ h => .inr h).setCell (p := ⟨r.rp, 2, none⟩) (.inl (.inl rfl)) _
    have hR := H.out.alloc_y hW5r (ownsRow_set Hown.out (a := ⟨r.rp, 2, none⟩) HBr4.out (by decide) _) Hfr.out hkF (HBa4.out.far (a := ⟨r.rp, 2, none⟩) (HBa4.out.ne HBr4.out (by decide)) _) (by have := Har.out; show w.heap.size ≤ ar; omega) rfl (by show bused r.log.yb + ((List.replicate n wd0).length + 1) ≤ r.Y; rw [List.length_replicate]; omega)
    refine ⟨_, hR, rfl, ⟨C.out.Y, C.out.O, by rw [C.out.yb]; simp, C.out.ob, C.out.R⟩, hkF.mono fun k _ h => h.elim (fun e => .inl e) fun e => .inr (.inl e.symm), fun k hk => ?_⟩
    rcases hk with e | e | e | e | e
    · exact .inl (.inl e)
    · rcases Hfr.out k e.symm with h | h; exact .inl (.inr (.inl h.symm)); exact .inr h
    · exact .inl (.inr (.inr (.inl e)))
    · exact .inl (.inr (.inr (.inr (.inl e))))
    · obtain ⟨z, hz, rfl⟩ := List.mem_map.1 e
      have hz2 : z ∈ r.all ∨ z = ⟨ar, ⟨(1 + bused r.log.yb), kind, List.replicate n wd0⟩⟩ := by
        simp only [RH.all, List.mem_append, List.mem_singleton] at hz ⊢
        rcases hz with hz | hz <;> (try rcases hz with hz | hz) <;> simp [hz]
      rcases hz2 with hz2 | rfl
      · exact .inl (.inr (.inr (.inr (.inr (List.mem_map_of_mem hz2)))))
      · exact .inr (by have := Har.out; show w.heap.size ≤ ar; omega)
set_option maxRecDepth 100000 in
set_option maxHeartbeats 8000000 in
theorem RAlloc_o {w : World} {base : Nat} {r : RH} {h : LH} (hr : RRep w base r) (c : Cpl h r) (kind : Int) (n : Nat) (h1 : 0 ≤ kind) (h2 : kind ≤ 255) (h3 : n ≤ 2000) (h4 : ¬ (n : Int) + 1 ≤ r.Y) :
    Calls Try.prog 51 #[.pointer (some ⟨r.rp, 0, none⟩), .int .i64 kind, .int .i64 n] w (RAllocR w base r h kind n) := by
  have hmk := run_makeW n (by omega)
  generalize hM : RAllocR w base r h kind n = M
  have HM := Lib.hid hM
  have H := Lib.hid hr; have C := Lib.hid c
  have hk0 : ¬ kind < 0 := by omega
  have hk1 : ¬ 255 < kind := by omega
  have hn1 : (n : Int) ≤ 2000 := by omega
  have hl : r.log.ob.length ≤ 1000000 := Nat.le_trans hr.olen (by omega)
  have q1 : bused r.log.ob ≤ r.O := hr.ok.uo
  have q2 := bused_nonneg r.log.ob
  have q3 := hr.O1
  have q4 := hr.Y1
  have q5 : 0 ≤ r.Y := hr.ok.Y0
  have hu : bused r.log.ob ≤ 1000000 := by omega
  clear hM hr c
  go_enter Try.func51, Try.ntmps51
  obtain ⟨ar, har⟩ : ∃ ar, w.heap.size = ar := ⟨_, rfl⟩
  obtain ⟨bb, hbb⟩ : ∃ bb, ar + 1 = bb := ⟨_, rfl⟩
  go_upto_region 4 with fail
  obtain ⟨W1, hW1⟩ : ∃ W1, (w.alloc (.cells (flat (List.replicate n wd0)) 33)).alloc (.cells #[.int .i64 0, .int .i64 kind, .slice (some ⟨ar, 0, none⟩) n n] 49) = W1 := ⟨_, rfl⟩
  have HX1 : Hid (Ext w W1) := Lib.hid (by rw [← hW1]; exact ((Ext.refl w).alloc _).alloc _)
  have HBa : Hid (Blk W1 ar (flat (List.replicate n wd0)) 33) := Lib.hid (by rw [← hW1, ← har]; exact (Blk.new w _ _).alloc _)
  have HBb : Hid (Blk W1 bb #[.int .i64 0, .int .i64 kind, .slice (some ⟨ar, 0, none⟩) n n] 49) := Lib.hid (by
    have := Blk.new (w.alloc (.cells (flat (List.replicate n wd0)) 33)) #[.int .i64 0, .int .i64 kind, .slice (some ⟨ar, 0, none⟩) n n] 49
    rw [← hW1, ← hbb, ← har] at *; simpa using this)
  have Har := Lib.hid har; have Hbb := Lib.hid hbb
  first | rw [hW1] | skip
  clear hW1 hmk
  have y0 : W1.cell? ⟨r.rp, 0, none⟩ = some (.int .i64 r.Y) := (H.out.ext HX1.out).c0
  have c2 : W1.cell? ⟨r.rp, 0 + 2, none⟩ = some r.ya := (H.out.ext HX1.out).c2
  have c3 : W1.cell? ⟨r.rp, 0 + 3, none⟩ = some r.oa := (H.out.ext HX1.out).c3
  have k0 : W1.cell? ⟨bb, 0, none⟩ = some (.int .i64 0) := (HBb.out.cell 0).trans rfl
  have f0 := HBb.out.frozen 0
  clear har hbb
  go_upto_region 10 with fail
  refine wp_region_still_tail 12 (by kernel_rfl) (by kernel_rfl) ?_
  simp only [List.take_succ_cons, List.take_zero, List.drop_succ_cons, List.drop_zero]
  change wpStill _ _ W1.drew (fun a' => wpList _ _ _ _ a' W1.drew) _ _
  have HX1 := Lib.hid HX1.out.drew
  have HBa := Lib.hid HBa.out.drew
  have HBb := Lib.hid HBb.out.drew
  clear y0 c2 c3 k0 f0
  generalize W1.drew = W1 at HX1 HBa HBb ⊢
  have y0 : W1.cell? ⟨r.rp, 0, none⟩ = some (.int .i64 r.Y) := (H.out.ext HX1.out).c0
  have c3 : W1.cell? ⟨r.rp, 0 + 3, none⟩ = some r.oa := (H.out.ext HX1.out).c3
  have k0 : W1.cell? ⟨bb, 0, none⟩ = some (.int .i64 0) := (HBb.out.cell 0).trans rfl
  have f0 := HBb.out.frozen 0
  repeat still_step
  still_call (Rused_same (H.out.ext HX1.out).rdo hl hu)
  repeat still_step
  refine wpStill_nil ?_
  go_upto_region 11 with fail
  obtain ⟨W2, hW2⟩ : ∃ W2, W1.setCell ⟨bb, 0, none⟩ (.int .i64 (r.Y + 1 + bused r.log.ob)) = W2 := ⟨_, rfl⟩
  have HX2 : Hid (Ext w W2) := Lib.hid (by rw [← hW2]; exact HX1.out.setCell (p := ⟨bb, 0, none⟩) (.inr (by have := Har.out; have := Hbb.out; show w.heap.size ≤ bb; omega)) _)
  have HBa2 : Hid (Blk W2 ar (flat (List.replicate n wd0)) 33) := Lib.hid (by rw [← hW2]; exact HBa.out.far (a := ⟨bb, 0, none⟩) (by have := Hbb.out; show ar ≠ bb; omega) _)
  have HBb2 : Hid (Blk W2 bb #[.int .i64 (r.Y + 1 + bused r.log.ob), .int .i64 kind, .slice (some ⟨ar, 0, none⟩) n n] 49) := Lib.hid (by rw [← hW2]; have := HBb.out.set 0 (.int .i64 (r.Y + 1 + bused r.log.ob)); simpa using this)
  rw [hW2]
  clear hW2 y0 c3 k0 f0
  have y0 : W2.cell? ⟨r.rp, 0, none⟩ = some (.int .i64 r.Y) := (H.out.ext HX2.out).c0
  have o0 : W2.cell? ⟨r.rp, 0 + 1, none⟩ = some (.int .i64 r.O) := (H.out.ext HX2.out).c1
  have c2 : W2.cell? ⟨r.rp, 0 + 2, none⟩ = some r.ya := (H.out.ext HX2.out).c2
  have c3 : W2.cell? ⟨r.rp, 0 + 3, none⟩ = some r.oa := (H.out.ext HX2.out).c3
  have Hrd := Lib.hid (H.out.ext HX2.out).rdo
  by_cases hfull : r.O < bused r.log.ob + n + 1
  · have hal : h.alloc kind n = (h, 0, 2) := by
      unfold LH.alloc
      rw [if_neg (by omega)]
      rw [show h.Y = r.Y from C.out.Y, show h.O = r.O from C.out.O, show h.ob = r.log.ob from C.out.ob, if_neg h4, if_neg (by omega)]
    have Hal := Lib.hid hal
    clear hal
    go_quiet ((go_at_call 73; ((with_reducible refine Calls.quiet_of_same (Rused_same (v := r.oa) (bs := r.log.ob) ?_ hl hu)); exact Hrd.out.ext ((Ext.refl W2).drewN _))))
    go_wp2_with fail
    rw [← HM.out]
    refine ⟨by rw [Hal.out]; try rfl, ?_⟩
    rw [Hal.out]
    exact RStep.same H.out C.out (HX2.out.drewN _)
  · have hal : h.alloc kind n = ({ h with ob := h.ob ++ [⟨(r.Y + 1 + bused r.log.ob), kind, List.replicate n wd0⟩] }, (r.Y + 1 + bused r.log.ob), 0) := by
      unfold LH.alloc
      rw [if_neg (by omega)]
      rw [show h.Y = r.Y from C.out.Y, show h.O = r.O from C.out.O, show h.ob = r.log.ob from C.out.ob, if_neg h4, if_pos (by omega)]
      simp
    have Hal := Lib.hid hal
    have hfull2 : bused r.log.ob + n + 1 ≤ r.O := by omega
    clear hal hfull
    go_quiet ((go_at_call 73; ((with_reducible refine Calls.quiet_of_same (Rused_same (v := r.oa) (bs := r.log.ob) ?_ hl hu)); exact Hrd.out.ext ((Ext.refl W2).drewN _))))
    go_upto_region 13 with fail
    obtain ⟨i0, hi, hz0, hz1, hz2⟩ := info_parts info_Block
    have HX3 : Hid (Ext w (W2.drewN nq).drew) := Lib.hid (HX2.out.drewN nq).drew
    have HBa3 : Hid (Blk (W2.drewN nq).drew ar (flat (List.replicate n wd0)) 33) := HBa2
    have HBb3 : Hid (Blk (W2.drewN nq).drew bb #[.int .i64 (r.Y + 1 + bused r.log.ob), .int .i64 kind, .slice (some ⟨ar, 0, none⟩) n n] 49) := HBb2
    have HS : Hid ((W2.drewN nq).drew.cell? ⟨r.rp, 3, none⟩ = some r.oa ∧ (W2.drewN nq).drew.cell? ⟨bb, 0, none⟩ = some (.int .i64 (r.Y + 1 + bused r.log.ob)) ∧ (W2.drewN nq).drew.cell? ⟨bb, 1, none⟩ = some (.int .i64 kind) ∧ (W2.drewN nq).drew.cell? ⟨bb, 2, none⟩ = some (.slice (some ⟨ar, 0, none⟩) n n)) :=
      Lib.hid ⟨(H.out.ext HX3.out).c3, (HBb3.out.cell 0).trans rfl, (HBb3.out.cell 1).trans rfl, (HBb3.out.cell 2).trans rfl⟩
    refine region_S_plain (n := 3) (fun V => V.cell? ⟨r.rp, 3, none⟩ = some r.oa ∧ V.cell? ⟨bb, 0, none⟩ = some (.int .i64 (r.Y + 1 + bused r.log.ob)) ∧ V.cell? ⟨bb, 1, none⟩ = some (.int .i64 kind) ∧ V.cell? ⟨bb, 2, none⟩ = some (.slice (some ⟨ar, 0, none⟩) n n)) 10 (by kernel_rfl) ?_
    clear y0 o0 c2 c3
    generalize (W2.drewN nq).drew = W3 at HX3 HBa3 HBb3 HS ⊢
    refine anyS_quiet (a2 := ?ac_0) 0 rfl rfl rfl (by kernel_rfl) (by kernel_rfl) (by kernel_rfl) (by kernel_rfl) (by kernel_rfl) (by kernel_rfl) (fun _ _ _ _ h => h) HS.out ?hc_0 ?kc_0
    case hc_0 => intro W hW K hK; obtain ⟨d0, d1, d2, d3⟩ := hW; go_simp; exact hK
    refine anyS_quiet (a2 := ?ac_1) 1 rfl rfl rfl (by kernel_rfl) (by kernel_rfl) (by kernel_rfl) (by kernel_rfl) (by kernel_rfl) (by kernel_rfl) (fun _ _ _ _ h => h) HS.out ?hc_1 ?kc_1
    case hc_1 => intro W hW K hK; obtain ⟨d0, d1, d2, d3⟩ := hW; go_simp; exact hK
    refine anyS_quiet (a2 := ?ac_2) 2 rfl rfl rfl (by kernel_rfl) (by kernel_rfl) (by kernel_rfl) (by kernel_rfl) (by kernel_rfl) (by kernel_rfl) (fun _ _ _ _ h => h) HS.out ?hc_2 ?kc_2
    case hc_2 => intro W hW K hK; obtain ⟨d0, d1, d2, d3⟩ := hW; go_simp; exact hK
    refine anyS_quiet (a2 := ?ac_3) 3 rfl rfl rfl (by kernel_rfl) (by kernel_rfl) (by kernel_rfl) (by kernel_rfl) (by kernel_rfl) (by kernel_rfl) (fun _ _ _ _ h => h) HS.out ?hc_3 ?kc_3
    case hc_3 => intro W hW K hK; obtain ⟨d0, d1, d2, d3⟩ := hW; go_simp; exact hK
    refine anyS_quiet (a2 := ?ac_4) 4 rfl rfl rfl (by kernel_rfl) (by kernel_rfl) (by kernel_rfl) (by kernel_rfl) (by kernel_rfl) (by kernel_rfl) (fun _ _ _ _ h => h) HS.out ?hc_4 ?kc_4
    case hc_4 => intro W hW K hK; obtain ⟨d0, d1, d2, d3⟩ := hW; go_simp; exact hK
    refine anyS_quiet (a2 := ?ac_5) 5 rfl rfl rfl (by kernel_rfl) (by kernel_rfl) (by kernel_rfl) (by kernel_rfl) (by kernel_rfl) (by kernel_rfl) (fun _ _ _ _ h => h) HS.out ?hc_5 ?kc_5
    case hc_5 => intro W hW K hK; obtain ⟨d0, d1, d2, d3⟩ := hW; go_simp; exact hK
    refine anyS_only 6 rfl (by kernel_rfl) ?_
    gi_wp2
    refine And.intro (by first | exact .inr ⟨cell_allocO HS.out.1 _, cell_allocO HS.out.2.1 _, cell_allocO HS.out.2.2.1 _, cell_allocO HS.out.2.2.2 _⟩ | exact ⟨cell_allocO HS.out.1 _, cell_allocO HS.out.2.1 _, cell_allocO HS.out.2.2.1 _, cell_allocO HS.out.2.2.2 _⟩) ?_
    refine anyS_only 7 rfl (by kernel_rfl) ?_
    have Hrow3 : Hid (rowR (W3.alloc (.cells #[.int .i64 (r.Y + 1 + bused r.log.ob), .int .i64 kind, .slice (some ⟨ar, 0, none⟩) n n] 49)) base r.oa r.ob) := Lib.hid (rowR_ext (H.out.ext HX3.out).orow ((Ext.refl W3).alloc _))
    have Hsz3 := Lib.hid HX3.out.size
    have Hb0 := Lib.hid H.out.base_le
    have hlr : r.ob.length ≤ 1000 := by have := H.out.olen; simpa [RH.log] using this
    refine wpListIn_append_fresh rfl _ _ 28 rfl base 49 i0 _ 3 40 Try.underlying28 hi hz0 hz1 hz2 rfl (by decide) r.oa r.ob.length _ rfl Hrow3.out ⟨W3.heap.size, 0, none⟩ 1 1 [Value.int .i64 (r.Y + 1 + bused r.log.ob), Value.int .i64 kind, Value.slice (some ⟨ar, 0, none⟩) n n] rfl rfl ?c1 ?c2 ?c3 ?c4 ?c5 ?_
    case c1 => exact cells_new W3 _ 49
    case c2 => simp [Value.oneCell']
    case c3 => unfold maxLen; omega
    case c4 => omega
    case c5 => simp; have := Hsz3.out; have := Hb0.out; omega
    intro v' W4 hown hgrow hnil hfresh
    obtain ⟨va, vc, rfl⟩ := own_slice hown
    have Hne : Hid (∀ k, r.oa.ownBlock = some k → k < w.heap.size ∧ k ≠ r.rp) := Lib.hid fun k hk => ⟨(H.out.orow.lt k hk).2, by obtain ⟨cur, hc⟩ := ownsRow_type H.out.orow hk; exact hc.ne H.out.blk (by decide)⟩
    have hk34 : Keeps (fun k => r.oa.ownBlock = some k) W3 W4 := ((Keeps.refl _ W3).alloc _).grown hgrow fun k e => .inl e
    have HK4 : Hid (Keeps (fun k => r.oa.ownBlock = some k) w W4) := Lib.hid ((HX3.out.mono fun _ _ h => h.elim : Keeps (fun k => r.oa.ownBlock = some k) w W3).trans hk34)
    have HBr4 : Hid (Blk W4 r.rp r.cells 69) := Lib.hid (HK4.out.blk H.out.blk fun e => (Hne.out _ e).2 rfl)
    have HBb4 := Lib.hid (hk34.blk HBb3.out fun e => by have := (Hne.out _ e).1; have := Har.out; have := Hbb.out; omega)
    have HBa4 := Lib.hid (hk34.blk HBa3.out fun e => by have := (Hne.out _ e).1; have := Har.out; omega)
    have Hown : Hid (rowR W4 base (.slice va (r.ob.length + 1) vc) (r.ob ++ [⟨ar, ⟨(r.Y + 1 + bused r.log.ob), kind, List.replicate n wd0⟩⟩])) := Lib.hid (by
      unfold rowR
      rw [bksApp, List.length_append]
      have e1 : bksCells ([(⟨ar, ⟨(r.Y + 1 + bused r.log.ob), kind, List.replicate n wd0⟩⟩ : RB)].map RB.b) ([(⟨ar, ⟨(r.Y + 1 + bused r.log.ob), kind, List.replicate n wd0⟩⟩ : RB)].map RB.sl) = [Value.int .i64 (r.Y + 1 + bused r.log.ob), Value.int .i64 kind, Value.slice (some ⟨ar, 0, none⟩) n n] := by simp [bksCells, bkCells, RB.sl]
      rw [e1]; exact hown)
    have Hfr : Hid (∀ k, Value.ownBlock (.slice va (r.ob.length + 1) vc) = some k → r.oa.ownBlock = some k ∨ w.heap.size ≤ k) := Lib.hid fun k hk => by
      rcases hfresh k hk with h | h
      · exact .inl h
      · exact .inr (by have := Hsz3.out; simp at h; omega)
    clear hown hgrow hnil hfresh hk34
    gi_wp2
    refine And.intro (by first | exact .inr ⟨(HBr4.out.cell 3).trans rfl, (HBb4.out.cell 0).trans rfl, (HBb4.out.cell 1).trans rfl, (HBb4.out.cell 2).trans rfl⟩ | exact ⟨(HBr4.out.cell 3).trans rfl, (HBb4.out.cell 0).trans rfl, (HBb4.out.cell 1).trans rfl, (HBb4.out.cell 2).trans rfl⟩) ?_
    have HS4 : Hid (W4.cell? ⟨r.rp, 3, none⟩ = some r.oa ∧ W4.cell? ⟨bb, 0, none⟩ = some (.int .i64 (r.Y + 1 + bused r.log.ob)) ∧ W4.cell? ⟨bb, 1, none⟩ = some (.int .i64 kind) ∧ W4.cell? ⟨bb, 2, none⟩ = some (.slice (some ⟨ar, 0, none⟩) n n)) :=
      Lib.hid ⟨(HBr4.out.cell 3).trans rfl, (HBb4.out.cell 0).trans rfl, (HBb4.out.cell 1).trans rfl, (HBb4.out.cell 2).trans rfl⟩
    refine anyS_quiet (a2 := ?ad_8) 8 rfl rfl rfl (by kernel_rfl) (by kernel_rfl) (by kernel_rfl) (by kernel_rfl) (by kernel_rfl) (by kernel_rfl) (fun _ _ _ _ h => h) HS4.out ?hd_8 ?kd_8
    case hd_8 => intro W hW K hK; obtain ⟨d0, d1, d2, d3⟩ := hW; go_simp; exact hK
    refine anyS_quiet (a2 := ?ad_9) 9 rfl rfl rfl (by kernel_rfl) (by kernel_rfl) (by kernel_rfl) (by kernel_rfl) (by kernel_rfl) (by kernel_rfl) (fun _ _ _ _ h => h) HS4.out ?hd_9 ?kd_9
    case hd_9 => intro W hW K hK; obtain ⟨d0, d1, d2, d3⟩ := hW; go_simp; exact hK
    refine anyS_only 10 rfl (by kernel_rfl) ?_
    have c2 : W4.cell? ⟨r.rp, 3, none⟩ = some r.oa := HS4.out.1
    have f2 := HBr4.out.frozen 3
    gi_wp2
    refine anyS_done (by kernel_rfl) ?_ _
    have b0 : (W4.setCell ⟨r.rp, 3, none⟩ (.slice va (r.ob.length + 1) vc)).cell? ⟨bb, 0, none⟩ = some (.int .i64 (r.Y + 1 + bused r.log.ob)) := ((HBb4.out.far (a := ⟨r.rp, 3, none⟩) (HBb4.out.ne HBr4.out (by decide)) _).cell 0).trans rfl
    go_wp2_with fail
    rw [← HM.out]
    refine ⟨by rw [Hal.out]; try rfl, ?_⟩
    rw [Hal.out]
    have hW5r : Blk (W4.setCell ⟨r.rp, 3, none⟩ (.slice va (r.ob.length + 1) vc)) r.rp ({ r with oa := .slice va (r.ob.length + 1) vc, ob := r.ob ++ [⟨ar, ⟨(r.Y + 1 + bused r.log.ob), kind, List.replicate n wd0⟩⟩] } : RH).cells 69 := by
      have := HBr4.out.set 3 (.slice va (r.ob.length + 1) vc)
      simpa [RH.cells] using this
    have hkF : Keeps (fun k => k = r.rp ∨ r.oa.ownBlock = some k) w (W4.setCell ⟨r.rp, 3, none⟩ (.slice va (r.ob.length + 1) vc)) := (HK4.out.mono fun _ _ h => .inr h).setCell (p := ⟨r.rp, 3, none⟩) (.inl (.inl rfl)) _
    have hR := H.out.alloc_o hW5r (ownsRow_set Hown.out (a := ⟨r.rp, 3, none⟩) HBr4.out (by decide) _) Hfr.out hkF (HBa4.out.far (a := ⟨r.rp, 3, none⟩) (HBa4.out.ne HBr4.out (by decide)) _) (by have := Har.out; show w.heap.size ≤ ar; omega) rfl (by show bused r.log.ob + ((List.replicate n wd0).length + 1) ≤ r.O; rw [List.length_replicate]; omega)
    refine ⟨_, hR, rfl, ⟨C.out.Y, C.out.O, C.out.yb, by rw [C.out.ob]; simp, C.out.R⟩, hkF.mono fun k _ h => h.elim (fun e => .inl e) fun e => .inr (.inr (.inl e.symm)), fun k hk => ?_⟩
    rcases hk with e | e | e | e | e
    · exact .inl (.inl e)
    · exact .inl (.inr (.inl e))
    · rcases Hfr.out k e.symm with h | h; exact .inl (.inr (.inr (.inl h.symm))); exact .inr h
    · exact .inl (.inr (.inr (.inr (.inl e))))
    · obtain ⟨z, hz, rfl⟩ := List.mem_map.1 e
      have hz2 : z ∈ r.all ∨ z = ⟨ar, ⟨(r.Y + 1 + bused r.log.ob), kind, List.replicate n wd0⟩⟩ := by
        simp only [RH.all, List.mem_append, List.mem_singleton] at hz ⊢
        rcases hz with hz | hz <;> (try rcases hz with hz | hz) <;> simp [hz]
      rcases hz2 with hz2 | rfl
      · exact .inl (.inr (.inr (.inr (.inr (List.mem_map_of_mem hz2)))))
      · exact .inr (by have := Har.out; show w.heap.size ≤ ar; omega)
theorem RAlloc_any {w : World} {base : Nat} {r : RH} {h : LH} (hr : RRep w base r) (c : Cpl h r) (kind size : Int) :
    Calls Try.prog 51 #[.pointer (some ⟨r.rp, 0, none⟩), .int .i64 kind, .int .i64 size] w (RAllocR w base r h kind size) := by
  by_cases hb : kind < 0 ∨ 255 < kind ∨ size < 0 ∨ 2000 < size
  · exact RAlloc_arg hr c kind size hb
  · obtain ⟨n, rfl⟩ : ∃ n : Nat, size = n := ⟨size.toNat, by omega⟩
    by_cases h4 : (n : Int) + 1 ≤ r.Y
    · exact RAlloc_y hr c kind n (by omega) (by omega) (by omega) h4
    · exact RAlloc_o hr c kind n (by omega) (by omega) (by omega) h4
end Go.Proofs.Ytikigppfnhilhaa
