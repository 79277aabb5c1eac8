/- The reference's desc. (Written by wip/tools/genYJ.py.) -/
import Derived.Test.YtlaepkmnbbgbcaaGreatDoorGS2
import Derived.Test.YtlaepkmnbbgbcaaGreatDoorGS3
import Derived.Test.YtlaepkmnbbgbcaaGreatDoorGB16
import Derived.Deep.WholeRow
/- The reference's desc. (Written by wip/tools/genYJ.py.) -/
namespace Go.Proofs.YtlaepkmnbbgbcaaGreatDoor
open Go.RowKit Go.Instr
set_option linter.unusedVariables false
set_option linter.unusedSimpArgs false
attribute [local go_sem] Oper.semAt_some

/-- What the reference asks of a descriptor. -/
structure DRp (c : Co) (i : Nat) (d : De) : Prop where
  ar : -1 ≤ d.around ∧ d.around ≤ (i : Int) - 1
  ch : chainB c i d = true
  of : 0 ≤ d.offset ∧ 0 ≤ d.cells ∧ d.offset ≤ 1500 ∧ d.cells ≤ 1500 - d.offset
  pv : prevB c d = true
  be : d.offset = beforeD c d
  vl : d.virts.length ≤ 2000
  vs : ∀ k, k < d.virts.length → virtB c d k = true
  pl : ∀ n ∈ [d.init, d.enter, d.do_, d.exit], placeB c n = true
  st : 0 ≤ d.stack ∧ d.stack ≤ 200
theorem descR_iff (c : Co) (i : Nat) : descR c i = true ↔ DRp c i (c.de i) := by
  unfold descR descB
  simp only [Bool.and_eq_true, decide_eq_true_eq, List.all_eq_true, List.mem_range]
  constructor
  · rintro ⟨⟨⟨⟨⟨⟨⟨⟨⟨⟨⟨⟨⟨⟨⟨⟨h1, h2⟩, h3⟩, h4⟩, h5⟩, h6⟩, h7⟩, h8⟩, h9⟩, h10⟩, h11⟩, h12⟩, h13⟩, h14⟩, h15⟩, h16⟩, h17⟩
    refine ⟨⟨h1, by omega⟩, h3, ⟨h4, h5, h6, h7⟩, h17, h8, h9, h10, fun n hn => ?_, ⟨h15, h16⟩⟩
    simp only [List.mem_cons, List.not_mem_nil, or_false] at hn
    rcases hn with rfl | rfl | rfl | rfl <;> assumption
  · intro g
    have p := g.pl
    exact ⟨⟨⟨⟨⟨⟨⟨⟨⟨⟨⟨⟨⟨⟨⟨⟨g.ar.1, by have := g.ar.2; omega⟩, g.ch⟩, g.of.1⟩, g.of.2.1⟩, g.of.2.2.1⟩, g.of.2.2.2⟩, g.be⟩, g.vl⟩, g.vs⟩, p _ (by simp)⟩, p _ (by simp)⟩, p _ (by simp)⟩, p _ (by simp)⟩, g.st.1⟩, g.st.2⟩, g.pv⟩
theorem within_b {w : World} {n lo hi : Int} {b : Bool} (h : decide (lo ≤ n ∧ n ≤ hi) = b) : Calls Tryz.prog 94 #[.int .i64 n, .int .i64 lo, .int .i64 hi] w fun e w' => e = .returned (.bool b) ∧ w' = w := by
  have := within_any (w := w) n lo hi
  unfold wiB at this
  rwa [← Bool.decide_and, h] at this
def lastV (d : De) (k : Nat) : Int := if k = 0 then -1 else (d.virts.getD (k - 1) default).id
theorem virtB_iff (c : Co) (d : De) (k : Nat) (v : Vt) (hv : d.virts[k]? = some v) : virtB c d k = true ↔ (0 ≤ v.id ∧ v.id ≤ 1999) ∧ ¬ v.id ≤ lastV d k ∧ (0 ≤ v.part ∧ v.part ≤ (d.chain.length : Int) - 1) ∧ (0 ≤ v.level ∧ v.level ≤ 2000) ∧ (-1 ≤ v.desc ∧ v.desc ≤ (c.descs.length : Int) - 1) := by
  unfold virtB lastV
  rw [show d.virts.getD k default = v by rw [List.getD_eq_getElem?_getD, hv]; rfl]
  simp only [Bool.and_eq_true, Bool.or_eq_true, decide_eq_true_eq]
  by_cases hk : k = 0
  · rw [if_pos hk]; simp only [hk, true_or, and_true]; omega
  · rw [if_neg hk]; simp only [hk, false_or]; omega
theorem rdV_at {w : World} {ad : Addr} {n cp : Nat} {l : List Vt} (h : RdL encV w (.slice (some ad) n cp) l) {k : Nat} {v : Vt} (hv : l[k]? = some v) {A : Addr} (hA : ad.add (k * 4) = A) :
    w.cell? A = some (.int .i64 v.id) ∧ w.cell? ⟨A.block, A.off + 1, none⟩ = some (.int .i64 v.part) ∧ w.cell? ⟨A.block, A.off + 2, none⟩ = some (.int .i64 v.level) ∧ w.cell? ⟨A.block, A.off + 3, none⟩ = some (.int .i64 v.desc) := by
  subst hA
  have g := fun j hj => h.at encV_len hv j hj
  exact ⟨by have := g 0 (by omega); rw [Addr.add_zero'] at this; exact this.trans rfl, (g 1 (by omega)).trans rfl, (g 2 (by omega)).trans rfl, (g 3 (by omega)).trans rfl⟩
theorem wpListIn_store_run {n : Nat} {w w2 : World} {ops : Array Oper} {rest : List Oper} {o : Oper} {a : Act} {Q : Exit → Act → World → Prop} (hgd : o.guard = none) (s x : Operand) (t : TypeId)
    (ho : o.op = .store t s x) (hrun : (Instr.storeAt t (a.eval s) (a.eval x)).run Tryz.prog w = .ok () w2)
    (hdst : o.dst = none) (h : wpListIn (WF none) n Tryz.prog ops Q rest a w2) : wpListIn (WF none) n Tryz.prog ops Q (o :: rest) a w := by
  refine wpListIn_plain hgd fun K hK => ⟨fun f hf => ?_, ?_⟩
  · exact trivial
  · have : (o.semAt (WF none).round a.eval).run Tryz.prog w = .ok .skip w2 := by
      show (o.semAt none a.eval).run Tryz.prog w = _
      simp only [Oper.semAt, execOp, ho, Sem.run_bind, Sem.run_pure, Result.andThen_ok, hrun]
    rw [this]
    refine hK _ _ ?_
    rw [hdst]; exact h
theorem ext_cell {w w' : World} (hx : Ex w w') {A : Addr} {v : Value} (h : w.cell? A = some v) : w'.cell? A = some v := by
  rw [← h]; exact World.cell?_of_block (hx.block _ (World.block_lt_of_cell? _ _ h) id)
set_option maxRecDepth 100000 in
set_option maxHeartbeats 16000000 in
theorem rdesc_any {w : World} {dv lv tv rv iv : Value} {c : Co} {xs : List DeV} (h : RdCo w dv lv tv rv iv c xs) (hb : Big c) (i : Nat) (hi : i < c.descs.length) :
    Calls Tryz.prog 73 #[codeV dv lv tv rv iv, .int .i64 i] w fun e w' => e = .returned (.bool (descR c i)) ∧ Ex w w' := by
  have HCh : Hid (∀ V, Ex w V → Calls Tryz.prog 126 #[codeV dv lv tv rv iv, .int .i64 i] V fun e w' => e = .returned (.bool (chainB c i (c.de i))) ∧ Ex V w') := Lib.hid (fun V hV => chained_any (h.ext hV) hb i hi)
  have hDi := descR_iff c i
  obtain ⟨da, dc, rfl, -, hd1, -⟩ := id h.ds
  obtain ⟨la, lc, rfl, -⟩ := id h.ls
  obtain ⟨ta, tc, rfl, -⟩ := id h.ts
  obtain ⟨ra, rc, rfl, -⟩ := id h.rs
  obtain ⟨ia, ic, rfl, -⟩ := id h.is
  have hn := h.len
  have hi' : i < xs.length := by omega
  obtain ⟨x, hx⟩ : ∃ x, xs[i]? = some x := ⟨_, List.getElem?_eq_getElem hi'⟩
  have hde := h.de_at hx
  have hD := h.de x (List.mem_of_getElem? hx)
  generalize hB : descR c i = B
  rw [hB, hde] at hDi
  rw [hde] at HCh
  obtain ⟨d, cv, uv, vv⟩ := x
  simp only at hde hDi HCh ⊢
  obtain ⟨ca, cc, ec, hc0, hc1, -⟩ := id hD.chain
  obtain ⟨ua, uc, eu, -, hu1, -⟩ := id hD.up
  obtain ⟨va, vc, ev, -, hv1, -⟩ := id hD.virts
  simp only at ec eu ev hc0 hc1 hu1 hv1 hD
  subst ec; subst eu; subst ev
  obtain ⟨ad, rfl⟩ : ∃ ad, da = some ad := by
    cases da with
    | none => have := hd1 rfl; subst this; simp at hi'
    | some ad => exact ⟨ad, rfl⟩
  obtain ⟨A, hA⟩ : ∃ A, ad.add (i * 11) = A := ⟨_, rfl⟩
  obtain ⟨W1, hW1⟩ : ∃ W1, w.alloc (.cells #[.slice (some ad) xs.length dc, .slice la c.labels.length lc, .slice ta c.texts.length tc, .slice ra c.reals.length rc, .slice ia c.instrs.length ic] 28) = W1 := ⟨_, rfl⟩
  obtain ⟨b0, hb0⟩ : ∃ b0, w.heap.size = b0 := ⟨_, rfl⟩
  have hX1 : Ex w W1 := by rw [← hW1]; exact (Keeps.refl _ w).alloc _
  have hB0 : Blk W1 b0 #[.slice (some ad) xs.length dc, .slice la c.labels.length lc, .slice ta c.texts.length tc, .slice ra c.reals.length rc, .slice ia c.instrs.length ic] 28 := by rw [← hW1, ← hb0]; exact Blk.new w _ _
  have hs1 : W1.heap.size = b0 + 1 := by rw [← hW1, ← hb0, World.size_alloc]
  have x0 : W1.cell? ⟨b0, 0, none⟩ = some (.slice (some ad) xs.length dc) := (hB0.cell 0).trans rfl
  obtain ⟨e0, e1, e2, e3, e4, e5, e6, e7, e8, e9, e10⟩ := (h.ds.ext hX1).deCells hx hA
  obtain ⟨W2, hW2⟩ : ∃ W2, W1.alloc (.cells (encD ⟨d, .slice ca d.chain.length cc, .slice ua d.up.length uc, .slice va d.virts.length vc⟩).toArray 50) = W2 := ⟨_, rfl⟩
  obtain ⟨b1, hb1⟩ : ∃ b1, W1.heap.size = b1 := ⟨_, rfl⟩
  have hX2 : Ex w W2 := by rw [← hW2]; exact hX1.alloc _
  have hX12 : Ex W1 W2 := by rw [← hW2]; exact (Keeps.refl _ W1).alloc _
  have hB1 : Blk W2 b1 (encD ⟨d, .slice ca d.chain.length cc, .slice ua d.up.length uc, .slice va d.virts.length vc⟩).toArray 50 := by rw [← hW2, ← hb1]; exact Blk.new W1 _ _
  unfold encD at hW2 hB1
  have hlx : xs.length ≤ 1000000 := by have := hb.d; omega
  have hli : c.instrs.length ≤ 1000000 := hb.i
  have hdm : d ∈ c.descs := by rw [← h.eq]; exact List.mem_map.2 ⟨_, List.mem_of_getElem? hx, rfl⟩
  obtain ⟨hcl, hul, hvl⟩ := hb.e d hdm
  have HB0 := hX12.blk hB0 id
  have HF0 : ∀ V, Ex W2 V → Hid ((V.cell? ⟨b0, 0, none⟩ = some (.slice (some ad) xs.length dc) ∧ V.cell? ⟨b0, 1, none⟩ = some (.slice la c.labels.length lc) ∧ V.cell? ⟨b0, 2, none⟩ = some (.slice ta c.texts.length tc) ∧ V.cell? ⟨b0, 3, none⟩ = some (.slice ra c.reals.length rc) ∧ V.cell? ⟨b0, 4, none⟩ = some (.slice ia c.instrs.length ic)) ∧
      (V.cell? ⟨b1, 0, none⟩ = some (.int .i64 d.around) ∧ V.cell? ⟨b1, 1, none⟩ = some (.slice ca d.chain.length cc) ∧ V.cell? ⟨b1, 3, none⟩ = some (.int .i64 d.offset) ∧ V.cell? ⟨b1, 4, none⟩ = some (.int .i64 d.cells) ∧ V.cell? ⟨b1, 5, none⟩ = some (.slice va d.virts.length vc)) ∧
      (V.cell? ⟨b1, 6, none⟩ = some (.int .i64 d.init) ∧ V.cell? ⟨b1, 7, none⟩ = some (.int .i64 d.enter) ∧ V.cell? ⟨b1, 8, none⟩ = some (.int .i64 d.do_) ∧ V.cell? ⟨b1, 9, none⟩ = some (.int .i64 d.exit) ∧ V.cell? ⟨b1, 10, none⟩ = some (.int .i64 d.stack))) := fun V hV =>
    have k0 := fun j => (hV.blk HB0 id).cell j
    have k1 := fun j => (hV.blk hB1 id).cell j
    ⟨⟨(k0 0).trans rfl, (k0 1).trans rfl, (k0 2).trans rfl, (k0 3).trans rfl, (k0 4).trans rfl⟩, ⟨(k1 0).trans rfl, (k1 1).trans rfl, (k1 3).trans rfl, (k1 4).trans rfl, (k1 5).trans rfl⟩, ⟨(k1 6).trans rfl, (k1 7).trans rfl, (k1 8).trans rfl, (k1 9).trans rfl, (k1 10).trans rfl⟩⟩
  have HNo : Hid (¬ DRp c i d → B = false) := Lib.hid (fun hq => Bool.eq_false_iff.2 (fun hb => hq (hDi.1 hb)))
  have HYes : Hid (DRp c i d → B = true) := Lib.hid hDi.2
  have H := Lib.hid h; have HX1 := Lib.hid hX1; have HD := Lib.hid hD; have HN := Lib.hid hn; have HX2 := Lib.hid hX2
  have HW1 := Lib.hid hW1; have Hb0 := Lib.hid hb0; have Hde := Lib.hid hde; have Hc1 := Lib.hid hc1; have Hb := Lib.hid hb; have HW2 := Lib.hid hW2; have Hb1 := Lib.hid hb1; have Hv1 := Lib.hid hv1; have Hi := Lib.hid hi'
  have hil : (i : Int) ≤ 1000000 := by omega
  have z0 : IntKind.i64.wrap ((i : Int) - 1) = (i : Int) - 1 := by simp [IntKind.wrap_i64]; omega
  clear h hX1 hB0 hD hs1 hn hx hW1 hb0 hde hd1 hc1 hu1 hv1 hb hc0 hX2 hX12 hB1 hW2 hb1 hB hDi hdm HB0 hi hi'
  generalize hM : (fun (e : Ending) (w' : World) => e = .returned (.bool B) ∧ Ex w w') = M
  have HM := Lib.hid hM
  clear hM
  unfold codeV at HCh ⊢
  simp only at e0 e1 e2 e3 e4 e5 e6 e7 e8 e9 e10
  go_enter Tryz.func73, Tryz.ntmps73
  go_upto_region 1 with fail
  try rw [HW1.out]
  try rw [Hb0.out]
  go_upto_region 2 with fail
  rw [HW2.out, Hb1.out]
  clear e0 e1 e2 e3 e4 e5 e6 e7 e8 e9 e10 x0
  obtain ⟨⟨x0, x1, x2, x3, x4⟩, ⟨y0, y1, y3, y4, y5⟩, -⟩ := (HF0 W2 (Keeps.refl _ _)).out
  by_cases a1 : -1 ≤ d.around ∧ d.around ≤ (i : Int) - 1
  case neg =>
    have HBf := HNo.out (fun g => a1 g.ar)
    have HC := Lib.hid (within_f (w := W2) a1)
    subst HBf
    go_wp2_with (go_at_call 94; refine HC.out.mono ?_; rintro e w3 ⟨rfl, rfl⟩)
    rw [← HM.out]
    exact ⟨rfl, HX2.out⟩
  have HC1 := Lib.hid (within_t (w := W2) a1.1 a1.2)
  cases hch : chainB c i d with
  | false =>
    have HBf := HNo.out (fun g => by have := g.ch; rw [hch] at this; cases this)
    have HC2 := Lib.hid (HCh.out W2 HX2.out)
    rw [hch] at HC2
    subst HBf
    clear hch
    go_wp2_with (first | (go_at_call 94; refine HC1.out.mono ?_; rintro e w3 ⟨rfl, rfl⟩) | (go_at_call 126; refine HC2.out.mono ?_; rintro e w3 ⟨rfl, hx3⟩; have HX3 := Lib.hid (HX2.out.trans hx3); clear hx3))
    rw [← HM.out]
    exact ⟨rfl, HX3.out⟩
  | true =>
  have HC2 := Lib.hid (HCh.out W2 HX2.out)
  rw [hch] at HC2
  have Hch := Lib.hid hch
  have Ha1 := Lib.hid a1
  clear hch
  go_wp2_with (go_at_call 94; refine HC1.out.mono ?_; rintro e w3 ⟨rfl, hw⟩; subst hw)
  refine HC2.out.mono ?_
  rintro e w3 ⟨rfl, hx3⟩
  have HX3 := Lib.hid hx3
  clear hx3 x0 x1 x2 x3 x4 y0 y1 y3 y4 y5 HC1 HC2 a1
  obtain ⟨⟨x0, x1, x2, x3, x4⟩, ⟨y0, y1, y3, y4, y5⟩, -⟩ := (HF0 w3 HX3.out).out
  by_cases o1 : d.offset < 0
  · have HBf := HNo.out (fun g => by have := g.of.1; omega)
    subst HBf
    go_wp2_with fail
    rw [← HM.out]
    exact ⟨rfl, HX2.out.trans HX3.out⟩
  by_cases o2 : d.cells < 0
  · have HBf := HNo.out (fun g => by have := g.of.2.1; omega)
    subst HBf
    go_wp2_with fail
    rw [← HM.out]
    exact ⟨rfl, HX2.out.trans HX3.out⟩
  by_cases o3 : d.offset > 1500
  · have HBf := HNo.out (fun g => by have := g.of.2.2.1; omega)
    subst HBf
    go_wp2_with fail
    rw [← HM.out]
    exact ⟨rfl, HX2.out.trans HX3.out⟩
  by_cases o4 : d.cells > 1500
  · have HBf := HNo.out (fun g => by have := g.of.2.2.2; have := g.of.1; omega)
    subst HBf
    go_wp2_with fail
    rw [← HM.out]
    exact ⟨rfl, HX2.out.trans HX3.out⟩
  have z1 : wrap64 (d.offset + d.cells) = d.offset + d.cells := by unfold wrap64; omega
  by_cases o5 : d.offset + d.cells > 1500
  · have HBf := HNo.out (fun g => by have := g.of.2.2.2; omega)
    subst HBf
    go_wp2_with fail
    rw [← HM.out]
    exact ⟨rfl, HX2.out.trans HX3.out⟩
  clear z1
  have Hof : Hid (0 ≤ d.offset ∧ 0 ≤ d.cells ∧ d.offset ≤ 1500 ∧ d.cells ≤ 1500 - d.offset) := Lib.hid ⟨by omega, by omega, by omega, by omega⟩
  have z2 : wrap64 (d.offset + d.cells) = d.offset + d.cells := by unfold wrap64; omega
  have hc2 := Hch.out
  unfold chainB at hc2
  simp only [Bool.and_eq_true, decide_eq_true_eq, Bool.not_eq_true', List.isEmpty_eq_false_iff] at hc2
  have hcl1 : 0 < d.chain.length := List.length_pos_iff.2 hc2.1.1.1.1.1
  have hcl2 : d.chain.length ≤ 40 := hc2.1.1.1.1.2
  clear hc2
  obtain ⟨m, hm⟩ : ∃ m, d.chain.length = m + 1 := ⟨d.chain.length - 1, by omega⟩
  have Hm := Lib.hid hm
  rw [hm] at y1
  have hm40 : m + 1 ≤ 40 := by omega
  have hq1 := Hm.out
  have HF1 := fun (V : World) (hV : Ex w3 V) => HF0 V (HX3.out.trans hV)
  simp only [Hm.out] at HF1
  clear hcl1 hcl2 hm hcl hq1
  go_upto_if 61 with fail
  go_cut [6] from 13 (fun s6 wc => s6 = .int .i64 (beforeD c d) ∧ Hid (prevB c d = true) ∧ Hid (Ex w3 wc))
  case first =>
    cases m with
    | zero =>
      have Hbe : Hid (beforeD c d = 0) := Lib.hid (by unfold beforeD; rw [Hm.out, if_neg (by omega)])
      have Hpv : Hid (prevB c d = true) := Lib.hid (by unfold prevB; rw [Hm.out, if_neg (by omega)])
      go_wp2_with fail
      go_meet
      case rel => exact ⟨by rw [Hbe.out], Hpv, Lib.hid (Keeps.refl _ _)⟩
    | succ q =>
      obtain ⟨cad, rfl⟩ : ∃ a, ca = some a := by
        cases ca with
        | none => have := Hc1.out rfl; have h2 := Hm.out; rw [this] at h2; simp at h2
        | some a => exact ⟨a, rfl⟩
      have hlv := level_of Hch.out (q := q) (by rw [Hm.out]; omega)
      unfold levelB at hlv
      simp only [Bool.and_eq_true, decide_eq_true_eq] at hlv
      obtain ⟨ei, hei⟩ : ∃ ei : Nat, d.chain.getD q 0 = ei := ⟨(d.chain.getD q 0).toNat, by omega⟩
      rw [hei] at hlv
      have hein : ei < xs.length := by have := HN.out; omega
      have HXw := Lib.hid (HX2.out.trans HX3.out)
      have zc : w3.cell? (cad.add q) = some (.int .i64 (ei : Int)) := by
        have := (HD.out.chain.ext HXw.out).int_at (k := q) (by have := Hm.out; show q < d.chain.length; omega)
        rw [show (DeV.d ⟨d, .slice (some cad) d.chain.length cc, .slice ua d.up.length uc, .slice va d.virts.length vc⟩).chain = d.chain from rfl, hei] at this
        exact this
      obtain ⟨y, hy⟩ : ∃ y, xs[ei]? = some y := ⟨_, List.getElem?_eq_getElem hein⟩
      have hyd := H.out.de_at hy
      obtain ⟨D, hDd⟩ : ∃ D, ad.add (ei * 11) = D := ⟨_, rfl⟩
      have hp := (H.out.ds.ext HXw.out).deCells hy hDd
      obtain ⟨p, pc, pu, pv⟩ := y
      simp only at hp hyd
      have hYD := H.out.de _ (List.mem_of_getElem? hy)
      obtain ⟨pca, pcc, epc, -⟩ := id hYD.chain
      obtain ⟨pua, puc, epu, -⟩ := id hYD.up
      obtain ⟨pva, pvc, epv, -⟩ := id hYD.virts
      simp only at epc epu epv
      subst epc; subst epu; subst epv
      have Hbe : Hid (beforeD c d = wrap64 (p.offset + p.cells)) := Lib.hid (by unfold beforeD; rw [Hm.out, if_pos (by omega), show q + 1 + 1 - 2 = q by omega, hei, hyd])
      have Hpv : Hid (prevB c d = (decide (0 ≤ p.offset) && decide (p.offset ≤ 1500) && decide (0 ≤ p.cells) && decide (p.cells ≤ 1500))) := Lib.hid (by unfold prevB; rw [Hm.out, if_pos (by omega), show q + 1 + 1 - 2 = q by omega, hei, hyd])
      have s6 : IntKind.i64.wrap (((q + 1 + 1 : Nat) : Int) - 2) = (q : Int) := by simp [IntKind.wrap_i64]; omega
      have s8 : IntKind.i64.wrap ((q : Int) + 1 + 1 - 2) = (q : Int) := by simp [IntKind.wrap_i64]; omega
      have s9 : (q : Int) < (q : Int) + 1 + 1 := by omega
      have s10 : (ei : Int) < (xs.length : Int) := by omega
      have s7 : wrap64 ((q : Int) + 1 + 1 - 2) = (q : Int) := by unfold wrap64; omega
      obtain ⟨W4, hW4⟩ : ∃ W4, w3.drew = W4 := ⟨_, rfl⟩
      have hX4 : Ex w3 W4 := by rw [← hW4]; exact (Keeps.refl _ _).drew
      have HS : Hid (W4.cell? ⟨b0, 0, none⟩ = some (.slice (some ad) xs.length dc) ∧ W4.cell? ⟨b1, 1, none⟩ = some (.slice (some cad) (q + 1 + 1) cc) ∧ W4.cell? (cad.add q) = some (.int .i64 (ei : Int)) ∧
          W4.cell? D = some (.int .i64 p.around) ∧ W4.cell? ⟨D.block, D.off + 1, none⟩ = some (.slice pca p.chain.length pcc) ∧ W4.cell? ⟨D.block, D.off + 2, none⟩ = some (.slice pua p.up.length puc) ∧ W4.cell? ⟨D.block, D.off + 3, none⟩ = some (.int .i64 p.offset) ∧ W4.cell? ⟨D.block, D.off + 4, none⟩ = some (.int .i64 p.cells) ∧ W4.cell? ⟨D.block, D.off + 5, none⟩ = some (.slice pva p.virts.length pvc) ∧
          W4.cell? ⟨D.block, D.off + 6, none⟩ = some (.int .i64 p.init) ∧ W4.cell? ⟨D.block, D.off + 7, none⟩ = some (.int .i64 p.enter) ∧ W4.cell? ⟨D.block, D.off + 8, none⟩ = some (.int .i64 p.do_) ∧ W4.cell? ⟨D.block, D.off + 9, none⟩ = some (.int .i64 p.exit) ∧ W4.cell? ⟨D.block, D.off + 10, none⟩ = some (.int .i64 p.stack)) := Lib.hid ?hS
      case hS =>
        subst hW4
        exact ⟨x0, y1, zc, hp⟩
      have HX4 := Lib.hid hX4
      clear hX4 hlv hy hYD hyd hp x0 x1 x2 x3 x4 y0 y1 y3 y4 y5 zc
      go_upto_region 6 with fail
      refine region_U_plain (n := 9) (fun V => V.cell? ⟨b0, 0, none⟩ = some (.slice (some ad) xs.length dc) ∧ V.cell? ⟨b1, 1, none⟩ = some (.slice (some cad) (q + 1 + 1) cc) ∧ V.cell? (cad.add q) = some (.int .i64 (ei : Int)) ∧
          V.cell? D = some (.int .i64 p.around) ∧ V.cell? ⟨D.block, D.off + 1, none⟩ = some (.slice pca p.chain.length pcc) ∧ V.cell? ⟨D.block, D.off + 2, none⟩ = some (.slice pua p.up.length puc) ∧ V.cell? ⟨D.block, D.off + 3, none⟩ = some (.int .i64 p.offset) ∧ V.cell? ⟨D.block, D.off + 4, none⟩ = some (.int .i64 p.cells) ∧ V.cell? ⟨D.block, D.off + 5, none⟩ = some (.slice pva p.virts.length pvc) ∧
          V.cell? ⟨D.block, D.off + 6, none⟩ = some (.int .i64 p.init) ∧ V.cell? ⟨D.block, D.off + 7, none⟩ = some (.int .i64 p.enter) ∧ V.cell? ⟨D.block, D.off + 8, none⟩ = some (.int .i64 p.do_) ∧ V.cell? ⟨D.block, D.off + 9, none⟩ = some (.int .i64 p.exit) ∧ V.cell? ⟨D.block, D.off + 10, none⟩ = some (.int .i64 p.stack)) 13 (by kernel_rfl) ?_
      rw [hW4]
      clear hW4
      refine anyU_quiet (a2 := ?a0) 0 rfl rfl rfl (by kernel_rfl) (by kernel_rfl) (by kernel_rfl) (by kernel_rfl) (by kernel_rfl) (by kernel_rfl) (fun _ _ _ _ h => h) HS.out ?h0 ?k0
      case h0 => intro W hW K hK; obtain ⟨q0, q1, q2, r0, r1, r2, r3, r4, r5, r6, r7, r8, r9, r10⟩ := hW; go_simp; exact hK
      refine anyU_quiet (a2 := ?a1) 1 rfl rfl rfl (by kernel_rfl) (by kernel_rfl) (by kernel_rfl) (by kernel_rfl) (by kernel_rfl) (by kernel_rfl) (fun _ _ _ _ h => h) HS.out ?h1 ?k1
      case h1 => intro W hW K hK; obtain ⟨q0, q1, q2, r0, r1, r2, r3, r4, r5, r6, r7, r8, r9, r10⟩ := hW; go_simp; exact hK
      refine anyU_quiet (a2 := ?a2) 2 rfl rfl rfl (by kernel_rfl) (by kernel_rfl) (by kernel_rfl) (by kernel_rfl) (by kernel_rfl) (by kernel_rfl) (fun _ _ _ _ h => h) HS.out ?h2 ?k2
      case h2 => intro W hW K hK; obtain ⟨q0, q1, q2, r0, r1, r2, r3, r4, r5, r6, r7, r8, r9, r10⟩ := hW; go_simp; exact hK
      refine anyU_quiet (a2 := ?a3) 3 rfl rfl rfl (by kernel_rfl) (by kernel_rfl) (by kernel_rfl) (by kernel_rfl) (by kernel_rfl) (by kernel_rfl) (fun _ _ _ _ h => h) HS.out ?h3 ?k3
      case h3 => intro W hW K hK; obtain ⟨q0, q1, q2, r0, r1, r2, r3, r4, r5, r6, r7, r8, r9, r10⟩ := hW; go_simp; exact hK
      refine anyU_quiet (a2 := ?a4) 4 rfl rfl rfl (by kernel_rfl) (by kernel_rfl) (by kernel_rfl) (by kernel_rfl) (by kernel_rfl) (by kernel_rfl) (fun _ _ _ _ h => h) HS.out ?h4 ?k4
      case h4 => intro W hW K hK; obtain ⟨q0, q1, q2, r0, r1, r2, r3, r4, r5, r6, r7, r8, r9, r10⟩ := hW; go_simp; exact hK
      refine anyU_quiet (a2 := ?a5) 5 rfl rfl rfl (by kernel_rfl) (by kernel_rfl) (by kernel_rfl) (by kernel_rfl) (by kernel_rfl) (by kernel_rfl) (fun _ _ _ _ h => h) HS.out ?h5 ?k5
      case h5 => intro W hW K hK; obtain ⟨q0, q1, q2, r0, r1, r2, r3, r4, r5, r6, r7, r8, r9, r10⟩ := hW; go_simp; exact hK
      refine anyU_quiet (a2 := ?a6) 6 rfl rfl rfl (by kernel_rfl) (by kernel_rfl) (by kernel_rfl) (by kernel_rfl) (by kernel_rfl) (by kernel_rfl) (fun _ _ _ _ h => h) HS.out ?h6 ?k6
      case h6 => intro W hW K hK; obtain ⟨q0, q1, q2, r0, r1, r2, r3, r4, r5, r6, r7, r8, r9, r10⟩ := hW; go_simp; exact hK
      refine anyU_quiet (a2 := ?a7) 7 rfl rfl rfl (by kernel_rfl) (by kernel_rfl) (by kernel_rfl) (by kernel_rfl) (by kernel_rfl) (by kernel_rfl) (fun _ _ _ _ h => h) HS.out ?h7 ?k7
      case h7 => intro W hW K hK; obtain ⟨q0, q1, q2, r0, r1, r2, r3, r4, r5, r6, r7, r8, r9, r10⟩ := hW; go_simp; exact hK
      refine anyU_quiet (a2 := ?a8) 8 rfl rfl rfl (by kernel_rfl) (by kernel_rfl) (by kernel_rfl) (by kernel_rfl) (by kernel_rfl) (by kernel_rfl) (fun _ _ _ _ h => h) HS.out ?h8 ?k8
      case h8 => intro W hW K hK; obtain ⟨q0, q1, q2, r0, r1, r2, r3, r4, r5, r6, r7, r8, r9, r10⟩ := hW; go_simp; exact hK
      refine anyU_quiet (a2 := ?a9) 9 rfl rfl rfl (by kernel_rfl) (by kernel_rfl) (by kernel_rfl) (by kernel_rfl) (by kernel_rfl) (by kernel_rfl) (fun _ _ _ _ h => h) HS.out ?h9 ?k9
      case h9 => intro W hW K hK; obtain ⟨q0, q1, q2, r0, r1, r2, r3, r4, r5, r6, r7, r8, r9, r10⟩ := hW; go_simp; exact hK
      refine anyU_quiet (a2 := ?a10) 10 rfl rfl rfl (by kernel_rfl) (by kernel_rfl) (by kernel_rfl) (by kernel_rfl) (by kernel_rfl) (by kernel_rfl) (fun _ _ _ _ h => h) HS.out ?h10 ?k10
      case h10 => intro W hW K hK; obtain ⟨q0, q1, q2, r0, r1, r2, r3, r4, r5, r6, r7, r8, r9, r10⟩ := hW; go_simp; exact hK
      refine anyU_quiet (a2 := ?a11) 11 rfl rfl rfl (by kernel_rfl) (by kernel_rfl) (by kernel_rfl) (by kernel_rfl) (by kernel_rfl) (by kernel_rfl) (fun _ _ _ _ h => h) HS.out ?h11 ?k11
      case h11 => intro W hW K hK; obtain ⟨q0, q1, q2, r0, r1, r2, r3, r4, r5, r6, r7, r8, r9, r10⟩ := hW; go_simp; exact hK
      obtain ⟨W5, hW5⟩ : ∃ W5, W4.alloc (.cells #[.int .i64 0, .slice none 0 0, .slice none 0 0, .int .i64 0, .int .i64 0, .slice none 0 0, .int .i64 0, .int .i64 0, .int .i64 0, .int .i64 0, .int .i64 0] 50) = W5 := ⟨_, rfl⟩
      obtain ⟨b5, hb5⟩ : ∃ b5, W4.heap.size = b5 := ⟨_, rfl⟩
      have hX45 : Ex W4 W5 := by rw [← hW5]; exact (Keeps.refl _ W4).alloc _
      have hB5 : Blk W5 b5 #[.int .i64 0, .slice none 0 0, .slice none 0 0, .int .i64 0, .int .i64 0, .slice none 0 0, .int .i64 0, .int .i64 0, .int .i64 0, .int .i64 0, .int .i64 0] 50 := by rw [← hW5, ← hb5]; exact Blk.new W4 _ _
      have HS5 : Hid (W5.cell? ⟨b0, 0, none⟩ = some (.slice (some ad) xs.length dc) ∧ W5.cell? ⟨b1, 1, none⟩ = some (.slice (some cad) (q + 1 + 1) cc) ∧ W5.cell? (cad.add q) = some (.int .i64 (ei : Int)) ∧
          W5.cell? D = some (.int .i64 p.around) ∧ W5.cell? ⟨D.block, D.off + 1, none⟩ = some (.slice pca p.chain.length pcc) ∧ W5.cell? ⟨D.block, D.off + 2, none⟩ = some (.slice pua p.up.length puc) ∧ W5.cell? ⟨D.block, D.off + 3, none⟩ = some (.int .i64 p.offset) ∧ W5.cell? ⟨D.block, D.off + 4, none⟩ = some (.int .i64 p.cells) ∧ W5.cell? ⟨D.block, D.off + 5, none⟩ = some (.slice pva p.virts.length pvc) ∧
          W5.cell? ⟨D.block, D.off + 6, none⟩ = some (.int .i64 p.init) ∧ W5.cell? ⟨D.block, D.off + 7, none⟩ = some (.int .i64 p.enter) ∧ W5.cell? ⟨D.block, D.off + 8, none⟩ = some (.int .i64 p.do_) ∧ W5.cell? ⟨D.block, D.off + 9, none⟩ = some (.int .i64 p.exit) ∧ W5.cell? ⟨D.block, D.off + 10, none⟩ = some (.int .i64 p.stack)) := Lib.hid ?hS5
      case hS5 =>
        have k := fun {A : Addr} {v : Value} (h : W4.cell? A = some v) => (ext_cell hX45 h : W5.cell? A = some v)
        have hs := HS.out
        exact ⟨k hs.1, k hs.2.1, k hs.2.2.1, k hs.2.2.2.1, k hs.2.2.2.2.1, k hs.2.2.2.2.2.1, k hs.2.2.2.2.2.2.1, k hs.2.2.2.2.2.2.2.1, k hs.2.2.2.2.2.2.2.2.1, k hs.2.2.2.2.2.2.2.2.2.1, k hs.2.2.2.2.2.2.2.2.2.2.1, k hs.2.2.2.2.2.2.2.2.2.2.2.1, k hs.2.2.2.2.2.2.2.2.2.2.2.2.1, k hs.2.2.2.2.2.2.2.2.2.2.2.2.2⟩
      have HX5 := Lib.hid (HX4.out.trans hX45)
      have HB5 := Lib.hid hB5
      obtain ⟨W6, hW6⟩ : ∃ W6, W4.alloc (.cells (encD ⟨p, .slice pca p.chain.length pcc, .slice pua p.up.length puc, .slice pva p.virts.length pvc⟩).toArray 50) = W6 := ⟨_, rfl⟩
      have HX6 : Hid (Ex w3 W6) := Lib.hid (by rw [← hW6]; exact HX4.out.alloc _)
      have hB6 : Blk W6 b5 (encD ⟨p, .slice pca p.chain.length pcc, .slice pua p.up.length puc, .slice pva p.virts.length pvc⟩).toArray 50 := by rw [← hW6, ← hb5]; exact Blk.new W4 _ _
      have c3 : W6.cell? ⟨b5, 3, none⟩ = some (.int .i64 p.offset) := (hB6.cell 3).trans rfl
      have c4 : W6.cell? ⟨b5, 4, none⟩ = some (.int .i64 p.cells) := (hB6.cell 4).trans rfl
      have hst : (Instr.storeAt 50 (.pointer (some ⟨b5, 0, none⟩)) (.agg (encD ⟨p, .slice pca p.chain.length pcc, .slice pua p.up.length puc, .slice pva p.virts.length pvc⟩).toArray)).run Tryz.prog W5 = .ok () W6 := by
        rw [← hW5, ← hW6, ← hb5]
        exact run_storeAt_new W4 50 _ _ (by kernel_rfl) rfl (by simp [encD, Value.oneCell'])
      unfold encD at hst
      simp only at hst
      have HSt := Lib.hid hst
      have HW5 := Lib.hid hW5; have Hb5 := Lib.hid hb5
      clear hX45 hB5 hW5 hb5 hW6 hB6 hst
      refine anyU_only 12 rfl (by kernel_rfl) ?_
      gi_wp2
      rw [HW5.out]
      try rw [Hb5.out]
      refine And.intro (.inr HS5.out) ?_
      refine anyU_only 13 rfl (by kernel_rfl) ?_
      refine wpListIn_store_run (w2 := W6) rfl _ _ 50 rfl ?hst rfl ?_
      case hst => exact HSt.out
      gi_wp2
      refine And.intro (.inl (by kernel_rfl)) ?_
      refine anyU_done (by kernel_rfl) ?_ _
      clear s6 s7 s8 s9 s10
      clear hei hein HS HS5 Hm hDd z2 hm40 Hc1
      by_cases r1 : 0 ≤ p.offset ∧ p.offset ≤ 1500
      case neg =>
        have HBf := HNo.out (fun g => by have := g.pv; rw [Hpv.out] at this; simp only [Bool.and_eq_true, decide_eq_true_eq] at this; omega)
        subst HBf
        have HC := Lib.hid (within_f (w := W6) r1)
        clear r1
        go_wp2_with fail
        refine HC.out.mono ?_
        rintro e w7 ⟨rfl, hw⟩
        subst hw
        clear HC
        go_wp2_with fail
        rw [← HM.out]
        exact ⟨rfl, HX2.out.trans (HX3.out.trans HX6.out)⟩
      by_cases r2 : 0 ≤ p.cells ∧ p.cells ≤ 1500
      case neg =>
        have HBf := HNo.out (fun g => by have := g.pv; rw [Hpv.out] at this; simp only [Bool.and_eq_true, decide_eq_true_eq] at this; omega)
        subst HBf
        go_wp2_with fail
        refine (within_t r1.1 r1.2).mono ?_
        rintro e w7 ⟨rfl, hw⟩
        subst hw
        go_wp2_with fail
        refine (within_f r2).mono ?_
        rintro e w7 ⟨rfl, hw⟩
        subst hw
        go_wp2_with fail
        rw [← HM.out]
        exact ⟨rfl, HX2.out.trans (HX3.out.trans HX6.out)⟩
      have hsum : wrap64 (p.offset + p.cells) = p.offset + p.cells := by unfold wrap64; omega
      have Hsum := Lib.hid hsum
      have HPv : Hid (prevB c d = true) := Lib.hid (by rw [Hpv.out]; simp only [Bool.and_eq_true, decide_eq_true_eq]; omega)
      clear hsum
      go_wp2_with fail
      refine (within_t r1.1 r1.2).mono ?_
      rintro e w7 ⟨rfl, hw⟩
      subst hw
      go_wp2_with fail
      refine (within_t r2.1 r2.2).mono ?_
      rintro e w7 ⟨rfl, hw⟩
      subst hw
      go_wp2_with fail
      go_meet
      case rel => exact ⟨by rw [Hbe.out, Hsum.out], HPv, HX6⟩
  case rest =>
    obtain ⟨hs6, HPv, HXc⟩ := hcut
    subst hs6
    have HXd := Lib.hid (HX2.out.trans (HX3.out.trans HXc.out))
    obtain ⟨⟨x0, x1, x2, x3, x4⟩, ⟨y0, y1, y3, y4, y5⟩, -⟩ := (HF0 wc (HX3.out.trans HXc.out)).out
    by_cases b1 : d.offset = beforeD c d
    case neg =>
      have HBf := HNo.out (fun g => b1 g.be)
      have b1b : (d.offset != beforeD c d) = true := by simpa using b1
      subst HBf
      go_wp2_with fail
      rw [← HM.out]
      exact ⟨rfl, HXd.out⟩
    have Hb1 := Lib.hid b1
    rw [← b1]
    clear b1
    by_cases b2 : (d.virts.length : Int) > 2000
    · have HBf := HNo.out (fun g => by have := g.vl; omega)
      subst HBf
      go_wp2_with fail
      rw [← HM.out]
      exact ⟨rfl, HXd.out⟩
    have b2n : d.virts.length ≤ 2000 := by omega
    have s3 : IntKind.i64.wrap ((d.chain.length : Int) - 1) = (d.chain.length : Int) - 1 := by have := Hm.out; simp [IntKind.wrap_i64]; omega
    have s4 : IntKind.i64.wrap ((xs.length : Int) - 1) = (xs.length : Int) - 1 := by simp [IntKind.wrap_i64]; omega
    go_wp2_with fail
    clear x0 x1 x2 x3 x4 y0 y1 y3 y4 y5
    go_loopw [8, 9] (fun s8 s9 wr => ∃ k : Nat, k ≤ d.virts.length ∧ s8 = .int .i64 (lastV d k) ∧ s9 = .int .i64 k ∧ Hid (Ex wc wr) ∧ Hid (∀ j, j < k → virtB c d j = true)) (fun s8 s9 wr => d.virts.length - (intOf s9).toNat)
    case atStart => exact ⟨0, Nat.zero_le _, rfl, rfl, Lib.hid (Keeps.refl _ wc), Lib.hid (fun j hj => by omega)⟩
    case round =>
      obtain ⟨k, hk, rfl, rfl, HX, HP⟩ := hrel
      obtain ⟨⟨x0, x1, x2, x3, x4⟩, ⟨y0, y1, y3, y4, y5⟩, -⟩ := (HF0 wr (HX3.out.trans (HXc.out.trans HX.out))).out
      by_cases hlt : k < d.virts.length
      case pos =>
        obtain ⟨v, hv⟩ : ∃ v, d.virts[k]? = some v := ⟨_, List.getElem?_eq_getElem hlt⟩
        have Hvi := Lib.hid (virtB_iff c d k v hv)
        have Hv := Lib.hid hv
        obtain ⟨vad, rfl⟩ : ∃ a, va = some a := by
          cases va with
          | none => have := Hv1.out rfl; rw [this] at hlt; simp at hlt
          | some a => exact ⟨a, rfl⟩
        obtain ⟨VA, hVA⟩ : ∃ VA, vad.add (k * 4) = VA := ⟨_, rfl⟩
        obtain ⟨z0, z1, z2, z3⟩ := rdV_at (HD.out.virts.ext (HXd.out.trans HX.out)) hv hVA
        obtain ⟨W7, hW7⟩ : ∃ W7, wr.alloc (.cells #[.int .i64 v.id, .int .i64 v.part, .int .i64 v.level, .int .i64 v.desc] 88) = W7 := ⟨_, rfl⟩
        obtain ⟨b7, hb7⟩ : ∃ b, wr.heap.size = b := ⟨_, rfl⟩
        have hX7 : Ex wr W7 := by rw [← hW7]; exact (Keeps.refl _ wr).alloc _
        have hB7 : Blk W7 b7 #[.int .i64 v.id, .int .i64 v.part, .int .i64 v.level, .int .i64 v.desc] 88 := by rw [← hW7, ← hb7]; exact Blk.new wr _ _
        have HX7 := Lib.hid (HX.out.trans hX7)
        have HW7 := Lib.hid hW7; have Hb7 := Lib.hid hb7; have HB7 := Lib.hid hB7
        clear hv hX7 hB7 hW7 hb7
        go_upto_region 17 with fail
        rw [HW7.out]
        try rw [Hb7.out]
        clear x0 x1 x2 x3 x4 y0 y1 y3 y4 y5 z0 z1 z2 z3
        obtain ⟨⟨x0, x1, x2, x3, x4⟩, ⟨y0, y1, y3, y4, y5⟩, -⟩ := (HF0 W7 (HX3.out.trans (HXc.out.trans HX7.out))).out
        have v0 : W7.cell? ⟨b7, 0, none⟩ = some (.int .i64 v.id) := (HB7.out.cell 0).trans rfl
        have v1 : W7.cell? ⟨b7, 1, none⟩ = some (.int .i64 v.part) := (HB7.out.cell 1).trans rfl
        have v2 : W7.cell? ⟨b7, 2, none⟩ = some (.int .i64 v.level) := (HB7.out.cell 2).trans rfl
        have v3 : W7.cell? ⟨b7, 3, none⟩ = some (.int .i64 v.desc) := (HB7.out.cell 3).trans rfl
        by_cases p1 : 0 ≤ v.id ∧ v.id ≤ 1999
        case neg =>
          have HBf := HNo.out (fun g => p1 (by have hh := Hvi.out.1 (g.vs k hlt); exact hh.1))
          subst HBf
          go_wp2_with fail
          refine (within_f p1).mono ?_
          rintro e w9 ⟨rfl, hw⟩
          subst hw
          go_wp2_with fail
          rw [← HM.out]
          exact ⟨rfl, HXd.out.trans HX7.out⟩
        by_cases p2 : ¬ v.id ≤ lastV d k
        case neg =>
          have HBf := HNo.out (fun g => p2 (by have hh := Hvi.out.1 (g.vs k hlt); exact hh.2.1))
          subst HBf
          have p2b : v.id ≤ lastV d k := by omega
          go_wp2_with fail
          refine (within_t p1.1 p1.2).mono ?_
          rintro e w9 ⟨rfl, hw⟩
          subst hw
          go_wp2_with fail
          rw [← HM.out]
          exact ⟨rfl, HXd.out.trans HX7.out⟩
        by_cases p3 : 0 ≤ v.part ∧ v.part ≤ (d.chain.length : Int) - 1
        case neg =>
          have HBf := HNo.out (fun g => p3 (by have hh := Hvi.out.1 (g.vs k hlt); exact hh.2.2.1))
          subst HBf
          go_wp2_with fail
          refine (within_t p1.1 p1.2).mono ?_
          rintro e w9 ⟨rfl, hw⟩
          subst hw
          go_wp2_with fail
          refine (within_f p3).mono ?_
          rintro e w9 ⟨rfl, hw⟩
          subst hw
          go_wp2_with fail
          rw [← HM.out]
          exact ⟨rfl, HXd.out.trans HX7.out⟩
        by_cases p4 : 0 ≤ v.level ∧ v.level ≤ 2000
        case neg =>
          have HBf := HNo.out (fun g => p4 (by have hh := Hvi.out.1 (g.vs k hlt); exact hh.2.2.2.1))
          subst HBf
          go_wp2_with fail
          refine (within_t p1.1 p1.2).mono ?_
          rintro e w9 ⟨rfl, hw⟩
          subst hw
          go_wp2_with fail
          refine (within_t p3.1 p3.2).mono ?_
          rintro e w9 ⟨rfl, hw⟩
          subst hw
          go_wp2_with fail
          refine (within_f p4).mono ?_
          rintro e w9 ⟨rfl, hw⟩
          subst hw
          go_wp2_with fail
          rw [← HM.out]
          exact ⟨rfl, HXd.out.trans HX7.out⟩
        by_cases p5 : -1 ≤ v.desc ∧ v.desc ≤ (xs.length : Int) - 1
        case neg =>
          have HBf := HNo.out (fun g => p5 (by have hh := Hvi.out.1 (g.vs k hlt); have h5 := hh.2.2.2.2; have h6 := HN.out; omega))
          subst HBf
          go_wp2_with fail
          refine (within_t p1.1 p1.2).mono ?_
          rintro e w9 ⟨rfl, hw⟩
          subst hw
          go_wp2_with fail
          refine (within_t p3.1 p3.2).mono ?_
          rintro e w9 ⟨rfl, hw⟩
          subst hw
          go_wp2_with fail
          refine (within_t p4.1 p4.2).mono ?_
          rintro e w9 ⟨rfl, hw⟩
          subst hw
          go_wp2_with fail
          refine (within_f p5).mono ?_
          rintro e w9 ⟨rfl, hw⟩
          subst hw
          go_wp2_with fail
          rw [← HM.out]
          exact ⟨rfl, HXd.out.trans HX7.out⟩
        have hnew : Hid (∀ j, j < k + 1 → virtB c d j = true) := Lib.hid (fun j hj => by
          by_cases e : j = k
          · subst e; exact Hvi.out.2 ⟨p1, p2, p3, p4, by have := HN.out; omega⟩
          · exact HP.out j (by omega))
        have hlast : lastV d (k + 1) = v.id := by unfold lastV; rw [if_neg (by omega), Nat.add_sub_cancel, List.getD_eq_getElem?_getD, Hv.out]; rfl
        have HLast := Lib.hid hlast
        clear hlast
        go_wp2_with fail
        refine (within_t p1.1 p1.2).mono ?_
        rintro e w9 ⟨rfl, hw⟩
        subst hw
        go_wp2_with fail
        refine (within_t p3.1 p3.2).mono ?_
        rintro e w9 ⟨rfl, hw⟩
        subst hw
        go_wp2_with fail
        refine (within_t p4.1 p4.2).mono ?_
        rintro e w9 ⟨rfl, hw⟩
        subst hw
        go_wp2_with fail
        refine (within_t p5.1 p5.2).mono ?_
        rintro e w9 ⟨rfl, hw⟩
        subst hw
        go_wp2_with fail
        go_roundw
        case rel => exact ⟨k + 1, by omega, by rw [HLast.out], by go_num, HX7, hnew⟩
        case measure => simp [intOf]; omega
      case neg =>
        have hkn : k = d.virts.length := by omega
        have HPv2 : Hid (∀ j, j < d.virts.length → virtB c d j = true) := Lib.hid (by rw [← hkn]; exact HP.out)
        clear HP hkn
        obtain ⟨p6, p7, p8, p9, p10⟩ := (HF0 wr (HX3.out.trans (HXc.out.trans HX.out))).out.2.2
        obtain ⟨W8, hW8⟩ : ∃ W8, wr.alloc (.cells #[.int .i64 d.init, .int .i64 d.enter, .int .i64 d.do_, .int .i64 d.exit] 3) = W8 := ⟨_, rfl⟩
        obtain ⟨b8, hb8⟩ : ∃ b, wr.heap.size = b := ⟨_, rfl⟩
        have hX8 : Ex wr W8 := by rw [← hW8]; exact (Keeps.refl _ wr).alloc _
        have hB8 : Blk W8 b8 #[.int .i64 d.init, .int .i64 d.enter, .int .i64 d.do_, .int .i64 d.exit] 3 := by rw [← hW8, ← hb8]; exact Blk.new wr _ _
        have hC8 : ∀ k, k < 4 → W8.cell? ⟨b8, k, none⟩ = some (.int .i64 ([d.init, d.enter, d.do_, d.exit].getD k 0)) := fun k hk => by
          rw [hB8.cell]
          match k, hk with
          | 0, _ => rfl
          | 1, _ => rfl
          | 2, _ => rfl
          | 3, _ => rfl
        have HX8 := Lib.hid (HX.out.trans hX8)
        have HW8 := Lib.hid hW8; have Hb8 := Lib.hid hb8; have HC8 := Lib.hid hC8
        clear hX8 hB8 hW8 hb8 hC8
        go_upto_region 21 with fail
        clear hlt
        rw [HW8.out]
        try rw [Hb8.out]
        clear x0 x1 x2 x3 x4 y0 y1 y3 y4 y5 p6 p7 p8 p9 p10
        go_wp2_with fail
        go_loopw [12] (fun s wr => ∃ k : Nat, k ≤ 4 ∧ s = .int .i64 k ∧ Hid (Ex W8 wr) ∧ Hid (∀ j, j < k → placeB c ([d.init, d.enter, d.do_, d.exit].getD j 0) = true)) (fun s wr => 4 - (intOf s).toNat)
        case atStart => exact ⟨0, Nat.zero_le _, rfl, Lib.hid (Keeps.refl _ W8), Lib.hid (fun j hj => by omega)⟩
        case round =>
        obtain ⟨k, hk, rfl, HX9, HP⟩ := hrel
        have HXe := HX3.out.trans (HXc.out.trans (HX8.out.trans HX9.out))
        obtain ⟨⟨x0, x1, x2, x3, x4⟩, -, ⟨-, -, -, -, p10⟩⟩ := (HF0 wr HXe).out
        by_cases hlt : k < 4
        case neg =>
          have hkn : k = 4 := by omega
          subst hkn
          have hpl : ∀ n ∈ [d.init, d.enter, d.do_, d.exit], placeB c n = true := by
            intro n hn
            obtain ⟨j, hj, e⟩ := List.getElem_of_mem hn
            have := HP.out j hj
            rw [List.getD_eq_getElem?_getD, List.getElem?_eq_getElem hj] at this
            rw [← e]; exact this
          have Hpl := Lib.hid hpl
          clear hpl
          by_cases t1 : 0 ≤ d.stack ∧ d.stack ≤ 200
          case neg =>
            have HBf := HNo.out (fun g => t1 g.st)
            subst HBf
            go_wp2_with fail
            refine (within_f t1).mono ?_
            rintro e w9 ⟨rfl, hw⟩
            subst hw
            go_wp2_with fail
            rw [← HM.out]
            exact ⟨rfl, HXd.out.trans (HX8.out.trans HX9.out)⟩
          have HBt := HYes.out ⟨Ha1.out, Hch.out, Hof.out, HPv.out, Hb1.out, b2n, HPv2.out, Hpl.out, t1⟩
          subst HBt
          go_wp2_with fail
          refine (within_t t1.1 t1.2).mono ?_
          rintro e w9 ⟨rfl, hw⟩
          subst hw
          go_wp2_with fail
          rw [← HM.out]
          exact ⟨rfl, HXd.out.trans (HX8.out.trans HX9.out)⟩
        obtain ⟨n, hn⟩ : ∃ n, [d.init, d.enter, d.do_, d.exit].getD k 0 = n := ⟨_, rfl⟩
        have z : wr.cell? ⟨b8, k, none⟩ = some (.int .i64 n) := by rw [← hn]; exact ext_cell HX9.out (HC8.out k hlt)
        have hmem : n ∈ [d.init, d.enter, d.do_, d.exit] := by
          rw [← hn, List.getD_eq_getElem?_getD, List.getElem?_eq_getElem hlt]; exact List.getElem_mem hlt
        have Hn := Lib.hid hn; have Hmem := Lib.hid hmem
        clear hn hmem
        have hlk : (k : Int) < 4 := by omega
        by_cases n1 : n = -1
        · subst n1
          have hnew : Hid (∀ j, j < k + 1 → placeB c ([d.init, d.enter, d.do_, d.exit].getD j 0) = true) := Lib.hid (fun j hj => by
            by_cases e : j = k
            · subst e; rw [Hn.out]; unfold placeB; rw [decide_eq_true (by omega), decide_eq_true (by omega)]; rfl
            · exact HP.out j (by omega))
          have HXd9 := HX9
          go_upto_region 24 with fail
          go_quiet (fail)
          go_wp2_with fail
          go_roundw
          case rel => exact ⟨k + 1, by omega, by go_num, HX9.out.drewN _, hnew⟩
          case measure => simp [intOf]; omega
        have n1b : (n != -1) = true := by simpa using n1
        obtain ⟨W9, hW9⟩ : ∃ W9, wr.drew = W9 := ⟨_, rfl⟩
        have hX9 : Ex wr W9 := by rw [← hW9]; exact (Keeps.refl _ _).drew
        have HX9 := Lib.hid (HX9.out.trans hX9)
        have HS : Hid (W9.cell? ⟨b0, 0, none⟩ = some (.slice (some ad) xs.length dc) ∧ W9.cell? ⟨b0, 1, none⟩ = some (.slice la c.labels.length lc) ∧ W9.cell? ⟨b0, 2, none⟩ = some (.slice ta c.texts.length tc) ∧ W9.cell? ⟨b0, 3, none⟩ = some (.slice ra c.reals.length rc) ∧ W9.cell? ⟨b0, 4, none⟩ = some (.slice ia c.instrs.length ic) ∧ W9.cell? ⟨b8, k, none⟩ = some (.int .i64 n)) := Lib.hid ⟨ext_cell hX9 x0, ext_cell hX9 x1, ext_cell hX9 x2, ext_cell hX9 x3, ext_cell hX9 x4, ext_cell hX9 z⟩
        have hcall := place_any (w := W9) (a := ia) (c := ic) hli ⟨_, _, _, rfl⟩ ⟨_, _, _, rfl⟩ ⟨_, _, _, rfl⟩ ⟨_, _, _, rfl⟩ (d := .slice (some ad) xs.length dc) (l := .slice la c.labels.length lc) (t := .slice ta c.texts.length tc) (r := .slice ra c.reals.length rc) n
        unfold codeV at hcall
        obtain ⟨r, hr⟩ : ∃ r, wiB n 0 (c.instrs.length - 1) = r := ⟨_, rfl⟩
        rw [hr] at hcall
        have HCall := Lib.hid hcall; have Hr := Lib.hid hr; have HW9 := Lib.hid hW9
        clear hcall hr hW9 hX9
        cases r with
        | false =>
          have HBf := HNo.out (fun g => by
            have h1 := g.pl n Hmem.out
            have h2 := Hr.out
            unfold placeB at h1
            unfold wiB at h2
            simp only [Bool.and_eq_true, decide_eq_true_eq, Bool.and_eq_false_iff, decide_eq_false_iff_not] at h1 h2
            omega)
          subst HBf
          go_upto_region 24 with fail
          clear x0 x1 x2 x3 x4 z
          refine region_U_plain (n := 9) (fun V => V.cell? ⟨b0, 0, none⟩ = some (.slice (some ad) xs.length dc) ∧ V.cell? ⟨b0, 1, none⟩ = some (.slice la c.labels.length lc) ∧ V.cell? ⟨b0, 2, none⟩ = some (.slice ta c.texts.length tc) ∧ V.cell? ⟨b0, 3, none⟩ = some (.slice ra c.reals.length rc) ∧ V.cell? ⟨b0, 4, none⟩ = some (.slice ia c.instrs.length ic) ∧ V.cell? ⟨b8, k, none⟩ = some (.int .i64 n)) 11 (by kernel_rfl) ?_
          rw [HW9.out]
          refine anyU_quiet (a2 := ?au2_0) 0 rfl rfl rfl (by kernel_rfl) (by kernel_rfl) (by kernel_rfl) (by kernel_rfl) (by kernel_rfl) (by kernel_rfl) (fun _ _ _ _ h => h) HS.out ?hu2_0 ?ku2_0
          case hu2_0 => intro W hW K hK; obtain ⟨q0, q1, q2, q3, q4, q5⟩ := hW; go_simp; exact hK
          refine anyU_quiet (a2 := ?au2_1) 1 rfl rfl rfl (by kernel_rfl) (by kernel_rfl) (by kernel_rfl) (by kernel_rfl) (by kernel_rfl) (by kernel_rfl) (fun _ _ _ _ h => h) HS.out ?hu2_1 ?ku2_1
          case hu2_1 => intro W hW K hK; obtain ⟨q0, q1, q2, q3, q4, q5⟩ := hW; go_simp; exact hK
          refine anyU_quiet (a2 := ?au2_2) 2 rfl rfl rfl (by kernel_rfl) (by kernel_rfl) (by kernel_rfl) (by kernel_rfl) (by kernel_rfl) (by kernel_rfl) (fun _ _ _ _ h => h) HS.out ?hu2_2 ?ku2_2
          case hu2_2 => intro W hW K hK; obtain ⟨q0, q1, q2, q3, q4, q5⟩ := hW; go_simp; exact hK
          refine anyU_quiet (a2 := ?au2_3) 3 rfl rfl rfl (by kernel_rfl) (by kernel_rfl) (by kernel_rfl) (by kernel_rfl) (by kernel_rfl) (by kernel_rfl) (fun _ _ _ _ h => h) HS.out ?hu2_3 ?ku2_3
          case hu2_3 => intro W hW K hK; obtain ⟨q0, q1, q2, q3, q4, q5⟩ := hW; go_simp; exact hK
          refine anyU_quiet (a2 := ?au2_4) 4 rfl rfl rfl (by kernel_rfl) (by kernel_rfl) (by kernel_rfl) (by kernel_rfl) (by kernel_rfl) (by kernel_rfl) (fun _ _ _ _ h => h) HS.out ?hu2_4 ?ku2_4
          case hu2_4 => intro W hW K hK; obtain ⟨q0, q1, q2, q3, q4, q5⟩ := hW; go_simp; exact hK
          refine anyU_quiet (a2 := ?au2_5) 5 rfl rfl rfl (by kernel_rfl) (by kernel_rfl) (by kernel_rfl) (by kernel_rfl) (by kernel_rfl) (by kernel_rfl) (fun _ _ _ _ h => h) HS.out ?hu2_5 ?ku2_5
          case hu2_5 => intro W hW K hK; obtain ⟨q0, q1, q2, q3, q4, q5⟩ := hW; go_simp; exact hK
          refine anyU_quiet (a2 := ?au2_6) 6 rfl rfl rfl (by kernel_rfl) (by kernel_rfl) (by kernel_rfl) (by kernel_rfl) (by kernel_rfl) (by kernel_rfl) (fun _ _ _ _ h => h) HS.out ?hu2_6 ?ku2_6
          case hu2_6 => intro W hW K hK; obtain ⟨q0, q1, q2, q3, q4, q5⟩ := hW; go_simp; exact hK
          refine anyU_quiet (a2 := ?au2_7) 7 rfl rfl rfl (by kernel_rfl) (by kernel_rfl) (by kernel_rfl) (by kernel_rfl) (by kernel_rfl) (by kernel_rfl) (fun _ _ _ _ h => h) HS.out ?hu2_7 ?ku2_7
          case hu2_7 => intro W hW K hK; obtain ⟨q0, q1, q2, q3, q4, q5⟩ := hW; go_simp; exact hK
          refine anyU_quiet (a2 := ?au2_8) 8 rfl rfl rfl (by kernel_rfl) (by kernel_rfl) (by kernel_rfl) (by kernel_rfl) (by kernel_rfl) (by kernel_rfl) (fun _ _ _ _ h => h) HS.out ?hu2_8 ?ku2_8
          case hu2_8 => intro W hW K hK; obtain ⟨q0, q1, q2, q3, q4, q5⟩ := hW; go_simp; exact hK
          refine anyU_quiet (a2 := ?au2_9) 9 rfl rfl rfl (by kernel_rfl) (by kernel_rfl) (by kernel_rfl) (by kernel_rfl) (by kernel_rfl) (by kernel_rfl) (fun _ _ _ _ h => h) HS.out ?hu2_9 ?ku2_9
          case hu2_9 => intro W hW K hK; obtain ⟨q0, q1, q2, q3, q4, q5⟩ := hW; go_simp; exact hK
          refine anyU_quiet (a2 := ?au2_10) 10 rfl rfl rfl (by kernel_rfl) (by kernel_rfl) (by kernel_rfl) (by kernel_rfl) (by kernel_rfl) (by kernel_rfl) (fun _ _ _ _ h => h) HS.out ?hu2_10 ?ku2_10
          case hu2_10 => intro W hW K hK; obtain ⟨q0, q1, q2, q3, q4, q5⟩ := hW; go_simp; exact hK
          refine anyU_only 11 rfl (by kernel_rfl) ?_
          gi_wp2_with fail
          refine (callsIn_WF HCall.out).mono ?_
          rintro e w10 ⟨rfl, hx10⟩
          have HX10 := Lib.hid (HX9.out.trans hx10)
          clear hx10
          gi_wp2
          refine And.intro (.inl (by kernel_rfl)) ?_
          refine anyU_only 12 rfl (by kernel_rfl) ?_
          gi_wp2
          refine And.intro (.inl (by kernel_rfl)) ?_
          refine anyU_only 13 rfl (by kernel_rfl) ?_
          gi_wp2
          refine And.intro (.inl (by kernel_rfl)) ?_
          refine anyU_done (by kernel_rfl) ?_ _
          clear HS HCall
          go_wp2_with fail
          rw [← HM.out]
          exact ⟨rfl, HXd.out.trans (HX8.out.trans HX10.out)⟩
        | true =>
          have hnew : Hid (∀ j, j < k + 1 → placeB c ([d.init, d.enter, d.do_, d.exit].getD j 0) = true) := Lib.hid (fun j hj => by
            by_cases e : j = k
            · subst e
              rw [Hn.out]
              have h2 := Hr.out
              unfold placeB
              unfold wiB at h2
              simp only [Bool.and_eq_true, decide_eq_true_eq] at h2 ⊢
              omega
            · exact HP.out j (by omega))
          go_upto_region 24 with fail
          clear x0 x1 x2 x3 x4 z
          refine region_U_plain (n := 9) (fun V => V.cell? ⟨b0, 0, none⟩ = some (.slice (some ad) xs.length dc) ∧ V.cell? ⟨b0, 1, none⟩ = some (.slice la c.labels.length lc) ∧ V.cell? ⟨b0, 2, none⟩ = some (.slice ta c.texts.length tc) ∧ V.cell? ⟨b0, 3, none⟩ = some (.slice ra c.reals.length rc) ∧ V.cell? ⟨b0, 4, none⟩ = some (.slice ia c.instrs.length ic) ∧ V.cell? ⟨b8, k, none⟩ = some (.int .i64 n)) 11 (by kernel_rfl) ?_
          rw [HW9.out]
          refine anyU_quiet (a2 := ?au3_0) 0 rfl rfl rfl (by kernel_rfl) (by kernel_rfl) (by kernel_rfl) (by kernel_rfl) (by kernel_rfl) (by kernel_rfl) (fun _ _ _ _ h => h) HS.out ?hu3_0 ?ku3_0
          case hu3_0 => intro W hW K hK; obtain ⟨q0, q1, q2, q3, q4, q5⟩ := hW; go_simp; exact hK
          refine anyU_quiet (a2 := ?au3_1) 1 rfl rfl rfl (by kernel_rfl) (by kernel_rfl) (by kernel_rfl) (by kernel_rfl) (by kernel_rfl) (by kernel_rfl) (fun _ _ _ _ h => h) HS.out ?hu3_1 ?ku3_1
          case hu3_1 => intro W hW K hK; obtain ⟨q0, q1, q2, q3, q4, q5⟩ := hW; go_simp; exact hK
          refine anyU_quiet (a2 := ?au3_2) 2 rfl rfl rfl (by kernel_rfl) (by kernel_rfl) (by kernel_rfl) (by kernel_rfl) (by kernel_rfl) (by kernel_rfl) (fun _ _ _ _ h => h) HS.out ?hu3_2 ?ku3_2
          case hu3_2 => intro W hW K hK; obtain ⟨q0, q1, q2, q3, q4, q5⟩ := hW; go_simp; exact hK
          refine anyU_quiet (a2 := ?au3_3) 3 rfl rfl rfl (by kernel_rfl) (by kernel_rfl) (by kernel_rfl) (by kernel_rfl) (by kernel_rfl) (by kernel_rfl) (fun _ _ _ _ h => h) HS.out ?hu3_3 ?ku3_3
          case hu3_3 => intro W hW K hK; obtain ⟨q0, q1, q2, q3, q4, q5⟩ := hW; go_simp; exact hK
          refine anyU_quiet (a2 := ?au3_4) 4 rfl rfl rfl (by kernel_rfl) (by kernel_rfl) (by kernel_rfl) (by kernel_rfl) (by kernel_rfl) (by kernel_rfl) (fun _ _ _ _ h => h) HS.out ?hu3_4 ?ku3_4
          case hu3_4 => intro W hW K hK; obtain ⟨q0, q1, q2, q3, q4, q5⟩ := hW; go_simp; exact hK
          refine anyU_quiet (a2 := ?au3_5) 5 rfl rfl rfl (by kernel_rfl) (by kernel_rfl) (by kernel_rfl) (by kernel_rfl) (by kernel_rfl) (by kernel_rfl) (fun _ _ _ _ h => h) HS.out ?hu3_5 ?ku3_5
          case hu3_5 => intro W hW K hK; obtain ⟨q0, q1, q2, q3, q4, q5⟩ := hW; go_simp; exact hK
          refine anyU_quiet (a2 := ?au3_6) 6 rfl rfl rfl (by kernel_rfl) (by kernel_rfl) (by kernel_rfl) (by kernel_rfl) (by kernel_rfl) (by kernel_rfl) (fun _ _ _ _ h => h) HS.out ?hu3_6 ?ku3_6
          case hu3_6 => intro W hW K hK; obtain ⟨q0, q1, q2, q3, q4, q5⟩ := hW; go_simp; exact hK
          refine anyU_quiet (a2 := ?au3_7) 7 rfl rfl rfl (by kernel_rfl) (by kernel_rfl) (by kernel_rfl) (by kernel_rfl) (by kernel_rfl) (by kernel_rfl) (fun _ _ _ _ h => h) HS.out ?hu3_7 ?ku3_7
          case hu3_7 => intro W hW K hK; obtain ⟨q0, q1, q2, q3, q4, q5⟩ := hW; go_simp; exact hK
          refine anyU_quiet (a2 := ?au3_8) 8 rfl rfl rfl (by kernel_rfl) (by kernel_rfl) (by kernel_rfl) (by kernel_rfl) (by kernel_rfl) (by kernel_rfl) (fun _ _ _ _ h => h) HS.out ?hu3_8 ?ku3_8
          case hu3_8 => intro W hW K hK; obtain ⟨q0, q1, q2, q3, q4, q5⟩ := hW; go_simp; exact hK
          refine anyU_quiet (a2 := ?au3_9) 9 rfl rfl rfl (by kernel_rfl) (by kernel_rfl) (by kernel_rfl) (by kernel_rfl) (by kernel_rfl) (by kernel_rfl) (fun _ _ _ _ h => h) HS.out ?hu3_9 ?ku3_9
          case hu3_9 => intro W hW K hK; obtain ⟨q0, q1, q2, q3, q4, q5⟩ := hW; go_simp; exact hK
          refine anyU_quiet (a2 := ?au3_10) 10 rfl rfl rfl (by kernel_rfl) (by kernel_rfl) (by kernel_rfl) (by kernel_rfl) (by kernel_rfl) (by kernel_rfl) (fun _ _ _ _ h => h) HS.out ?hu3_10 ?ku3_10
          case hu3_10 => intro W hW K hK; obtain ⟨q0, q1, q2, q3, q4, q5⟩ := hW; go_simp; exact hK
          refine anyU_only 11 rfl (by kernel_rfl) ?_
          gi_wp2_with fail
          refine (callsIn_WF HCall.out).mono ?_
          rintro e w10 ⟨rfl, hx10⟩
          have HX10 := Lib.hid (HX9.out.trans hx10)
          clear hx10
          gi_wp2
          refine And.intro (.inl (by kernel_rfl)) ?_
          refine anyU_only 12 rfl (by kernel_rfl) ?_
          gi_wp2
          refine And.intro (.inl (by kernel_rfl)) ?_
          refine anyU_only 13 rfl (by kernel_rfl) ?_
          gi_wp2
          refine And.intro (.inl (by kernel_rfl)) ?_
          refine anyU_done (by kernel_rfl) ?_ _
          clear HS HCall
          go_wp2_with fail
          go_roundw
          case rel => exact ⟨k + 1, by omega, by go_num, HX10, hnew⟩
          case measure => simp [intOf]; omega
end Go.Proofs.YtlaepkmnbbgbcaaGreatDoor
