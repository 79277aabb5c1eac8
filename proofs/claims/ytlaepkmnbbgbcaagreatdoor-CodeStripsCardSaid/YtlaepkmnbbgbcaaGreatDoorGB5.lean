/- descFits: what it asks first; what fails there. descFits: a descriptor whose chain is itself alone. -/
import Derived.Test.YtlaepkmnbbgbcaaGreatDoorGB4
/- descFits: what it asks first; what fails there. -/
namespace Go.Proofs.YtlaepkmnbbgbcaaGreatDoor
open Go.RowKit Go.Instr
set_option linter.unusedVariables false
set_option linter.unusedSimpArgs false
attribute [local go_sem] Oper.semAt_some

theorem descB_split {c : Co} {i : Nat} {d : De} (h : c.de i = d) : descB c i = (decide (-1 ≤ d.around) && decide (d.around < i) && chainB c i d && decide (0 ≤ d.offset) && decide (0 ≤ d.cells) && decide (d.offset ≤ 1500) && decide (d.cells ≤ 1500 - d.offset) && decide (d.offset = beforeD c d) && decide (d.virts.length ≤ 2000) &&
    (List.range d.virts.length).all (virtB c d) && placeB c d.init && placeB c d.enter && placeB c d.do_ && placeB c d.exit && decide (0 ≤ d.stack) && decide (d.stack ≤ 200)) := by
  unfold descB; rw [h]
theorem descB_around1 {c : Co} {i : Nat} {d : De} (h : c.de i = d) (k : ¬ -1 ≤ d.around) : descB c i = false := by
  rw [descB_split h, decide_eq_false k]; simp
theorem descB_around2 {c : Co} {i : Nat} {d : De} (h : c.de i = d) (k : ¬ d.around < i) : descB c i = false := by
  rw [descB_split h, decide_eq_false k]; simp
theorem descB_chain {c : Co} {i : Nat} {d : De} (h : c.de i = d) (k : chainB c i d = false) : descB c i = false := by
  rw [descB_split h, k]; simp
theorem descB_offset1 {c : Co} {i : Nat} {d : De} (h : c.de i = d) (k : ¬ 0 ≤ d.offset) : descB c i = false := by
  rw [descB_split h, decide_eq_false k]; simp
theorem descB_cells1 {c : Co} {i : Nat} {d : De} (h : c.de i = d) (k : ¬ 0 ≤ d.cells) : descB c i = false := by
  rw [descB_split h, decide_eq_false k]; simp
theorem descB_offset2 {c : Co} {i : Nat} {d : De} (h : c.de i = d) (k : ¬ d.offset ≤ 1500) : descB c i = false := by
  rw [descB_split h, decide_eq_false k]; simp
theorem descB_cells2 {c : Co} {i : Nat} {d : De} (h : c.de i = d) (k : ¬ d.cells ≤ 1500 - d.offset) : descB c i = false := by
  rw [descB_split h, decide_eq_false k]; simp
theorem descB_before {c : Co} {i : Nat} {d : De} (h : c.de i = d) (k : ¬ d.offset = beforeD c d) : descB c i = false := by
  rw [descB_split h, decide_eq_false k]; simp
theorem descB_virts {c : Co} {i : Nat} {d : De} (h : c.de i = d) (k : ¬ d.virts.length ≤ 2000) : descB c i = false := by
  rw [descB_split h, decide_eq_false k]; simp
theorem descB_virt {c : Co} {i : Nat} {d : De} (h : c.de i = d) {k : Nat} (hk : k < d.virts.length) (hv : virtB c d k = false) : descB c i = false := by
  rw [descB_split h, show (List.range d.virts.length).all (virtB c d) = false from List.all_eq_false.2 ⟨k, List.mem_range.2 hk, by rw [hv]; simp⟩]; simp
theorem descB_place {c : Co} {i : Nat} {d : De} (h : c.de i = d) (k : placeB c d.init = false ∨ placeB c d.enter = false ∨ placeB c d.do_ = false ∨ placeB c d.exit = false) : descB c i = false := by
  rw [descB_split h]
  rcases k with k | k | k | k <;> rw [k] <;> simp
theorem descB_stack1 {c : Co} {i : Nat} {d : De} (h : c.de i = d) (k : ¬ 0 ≤ d.stack) : descB c i = false := by
  rw [descB_split h, decide_eq_false k]; simp
theorem descB_last {c : Co} {i : Nat} {d : De} (h : c.de i = d) (h1 : -1 ≤ d.around) (h2 : d.around < i) (h3 : chainB c i d = true) (h4 : 0 ≤ d.offset) (h5 : 0 ≤ d.cells) (h6 : d.offset ≤ 1500) (h7 : d.cells ≤ 1500 - d.offset) (h8 : d.offset = beforeD c d) (h9 : d.virts.length ≤ 2000)
    (hv : ∀ k, k < d.virts.length → virtB c d k = true) (p1 : placeB c d.init = true) (p2 : placeB c d.enter = true) (p3 : placeB c d.do_ = true) (p4 : placeB c d.exit = true) (s : 0 ≤ d.stack) : descB c i = decide (d.stack ≤ 200) := by
  rw [descB_split h, show (List.range d.virts.length).all (virtB c d) = true from List.all_eq_true.2 fun k hk => hv k (List.mem_range.1 hk), h3, p1, p2, p3, p4, decide_eq_true h1, decide_eq_true h2, decide_eq_true h4, decide_eq_true h5, decide_eq_true h6, decide_eq_true h7, decide_eq_true h8, decide_eq_true h9, decide_eq_true s]
  simp
theorem chainB_level_of {c : Co} {i : Nat} {d : De} (h : chainB c i d = true) {k : Nat} (hk : k < d.chain.length) : levelB c d k = true := by
  cases e : levelB c d k with
  | true => rfl
  | false => rw [chainB_level hk e] at h; exact h
theorem levelB_in {c : Co} {d : De} {k : Nat} (h : levelB c d k = true) : 0 ≤ d.chain.getD k 0 ∧ d.chain.getD k 0 < (c.descs.length : Nat) := by
  unfold levelB at h
  simp only [Bool.and_eq_true, decide_eq_true_eq] at h
  exact ⟨h.1.1.1.1, h.1.1.1.2⟩
theorem idx4 (a b c d : Int) (w : World) : (Instr.index 165 (.agg #[.int .i64 a, .int .i64 b, .int .i64 c, .int .i64 d]) (.int .i64 0)).run Tryz.prog w = .ok (.int .i64 a) w ∧ (Instr.index 165 (.agg #[.int .i64 a, .int .i64 b, .int .i64 c, .int .i64 d]) (.int .i64 1)).run Tryz.prog w = .ok (.int .i64 b) w ∧ (Instr.index 165 (.agg #[.int .i64 a, .int .i64 b, .int .i64 c, .int .i64 d]) (.int .i64 2)).run Tryz.prog w = .ok (.int .i64 c) w ∧ (Instr.index 165 (.agg #[.int .i64 a, .int .i64 b, .int .i64 c, .int .i64 d]) (.int .i64 3)).run Tryz.prog w = .ok (.int .i64 d) w := by
  refine ⟨?_, ?_, ?_, ?_⟩ <;> (first | kernel_rfl | rfl)
/-- The cells of a virtual pattern. -/
theorem RdL.vtCells {w : World} {ad : Addr} {n cp : Nat} {l : List Vt} (h : RdL encV w (.slice (some ad) n cp) l) {k : Nat} (hk : k < l.length) {A : Addr} (hA : ad.add (k * 4) = A) :
    w.cell? A = some (.int .i64 (l.getD k default).id) ∧ w.cell? ⟨A.block, A.off + 1, none⟩ = some (.int .i64 (l.getD k default).part) ∧ w.cell? ⟨A.block, A.off + 2, none⟩ = some (.int .i64 (l.getD k default).level) ∧ w.cell? ⟨A.block, A.off + 3, none⟩ = some (.int .i64 (l.getD k default).desc) := by
  subst hA
  have hx : l[k]? = some l[k] := List.getElem?_eq_getElem hk
  have e : l.getD k default = l[k] := by rw [List.getD_eq_getElem?_getD, hx]; rfl
  rw [e]
  have g := fun j hj => h.at encV_len hx j hj
  exact ⟨by have := g 0 (by omega); rw [Addr.add_zero'] at this; exact this.trans rfl, (g 1 (by omega)).trans rfl, (g 2 (by omega)).trans rfl, (g 3 (by omega)).trans rfl⟩

set_option maxRecDepth 100000 in
set_option maxHeartbeats 40000000 in
theorem descFits_early {w : World} {dv lv tv rv iv : Value} {c : Co} {xs : List DeV} (h : RdCo w dv lv tv rv iv c xs) (hb : Big c) (i : Nat) (hi : i < c.descs.length) (hbad : ¬ -1 ≤ (c.de i).around ∨ ¬ (c.de i).around < i ∨ chainB c i (c.de i) = false) :
    Calls Tryz.prog 62 #[codeV dv lv tv rv iv, .int .i64 i] w fun e w' => e = .returned (.bool (descB c i)) ∧ Ex w w' := by
  obtain ⟨da, dc, rfl, -, hd1, -⟩ := id h.ds
  obtain ⟨la, lc, rfl, -⟩ := id h.ls
  obtain ⟨ta, tc, rfl, -⟩ := id h.ts
  obtain ⟨ra, rc, rfl, -⟩ := id h.rs
  obtain ⟨ia, ic, rfl, -⟩ := id h.is
  have hn := h.len
  have hi' : i < xs.length := by omega
  obtain ⟨x, hx⟩ : ∃ x, xs[i]? = some x := ⟨_, List.getElem?_eq_getElem hi'⟩
  have hde := h.de_at hx
  have hD := h.de x (List.mem_of_getElem? hx)
  obtain ⟨d, cv, uv, vv⟩ := x
  simp only at hde
  rw [hde] at hbad
  generalize hB : descB c i = B
  obtain ⟨ca, cc, ec, hc0, hc1, -⟩ := id hD.chain
  obtain ⟨ua, uc, eu, -, hu1, -⟩ := id hD.up
  obtain ⟨va, vc, ev, -, hv1, -⟩ := id hD.virts
  simp only at ec eu ev hc0 hc1 hu1 hv1 hD
  subst ec; subst eu; subst ev
  obtain ⟨ad, rfl⟩ : ∃ ad, da = some ad := by
    cases da with
    | none => have := hd1 rfl; subst this; simp at hi'
    | some ad => exact ⟨ad, rfl⟩
  obtain ⟨A, hA⟩ : ∃ A, ad.add (i * 11) = A := ⟨_, rfl⟩
  obtain ⟨W1, hW1⟩ : ∃ W1, w.alloc (.cells #[.slice (some ad) xs.length dc, .slice la c.labels.length lc, .slice ta c.texts.length tc, .slice ra c.reals.length rc, .slice ia c.instrs.length ic] 28) = W1 := ⟨_, rfl⟩
  obtain ⟨b0, hb0⟩ : ∃ b0, w.heap.size = b0 := ⟨_, rfl⟩
  have hX1 : Ex w W1 := by rw [← hW1]; exact (Keeps.refl _ w).alloc _
  have hB0 : Blk W1 b0 #[.slice (some ad) xs.length dc, .slice la c.labels.length lc, .slice ta c.texts.length tc, .slice ra c.reals.length rc, .slice ia c.instrs.length ic] 28 := by rw [← hW1, ← hb0]; exact Blk.new w _ _
  have hs1 : W1.heap.size = b0 + 1 := by rw [← hW1, ← hb0, World.size_alloc]
  have x0 : W1.cell? ⟨b0, 0, none⟩ = some (.slice (some ad) xs.length dc) := (hB0.cell 0).trans rfl
  obtain ⟨e0, e1, e2, e3, e4, e5, e6, e7, e8, e9, e10⟩ := (h.ds.ext hX1).deCells hx hA
  obtain ⟨W2, hW2⟩ : ∃ W2, W1.alloc (.cells (encD ⟨d, .slice ca d.chain.length cc, .slice ua d.up.length uc, .slice va d.virts.length vc⟩).toArray 50) = W2 := ⟨_, rfl⟩
  obtain ⟨b1, hb1⟩ : ∃ b1, W1.heap.size = b1 := ⟨_, rfl⟩
  have hX2 : Ex w W2 := by rw [← hW2]; exact hX1.alloc _
  have hX12 : Ex W1 W2 := by rw [← hW2]; exact (Keeps.refl _ W1).alloc _
  have hB1 : Blk W2 b1 (encD ⟨d, .slice ca d.chain.length cc, .slice ua d.up.length uc, .slice va d.virts.length vc⟩).toArray 50 := by rw [← hW2, ← hb1]; exact Blk.new W1 _ _
  dsimp only [encD] at hW2 hB1
  have hlx : xs.length ≤ 1000000 := by have := hb.d; omega
  have hil : c.instrs.length ≤ 1000000 := hb.i
  have hch := chainFits_any (h.ext hX2) hb i hi
  rw [hde] at hch
  unfold codeV at hch
  have hdm : d ∈ c.descs := by rw [← h.eq]; exact List.mem_map.2 ⟨_, List.mem_of_getElem? hx, rfl⟩
  have hcl : d.chain.length ≤ 1000000 := (hb.e d hdm).1
  have hvl : d.virts.length ≤ 1000000 := (hb.e d hdm).2.2
  have H := Lib.hid h; have HX1 := Lib.hid hX1; have HB0 := Lib.hid (hX12.blk hB0 id); have HD := Lib.hid hD; have HN := Lib.hid hn; have HXx := Lib.hid hx; have HB1 := Lib.hid hB1; have HX2 := Lib.hid hX2
  have HW1 := Lib.hid hW1; have Hb0 := Lib.hid hb0; have Hde := Lib.hid hde; have Hc1 := Lib.hid hc1; have Hu1 := Lib.hid hu1; have Hv1 := Lib.hid hv1; have Hb := Lib.hid hb; have Hc0 := Lib.hid hc0; have HW2 := Lib.hid hW2; have Hb1 := Lib.hid hb1; have HB := Lib.hid hB; have HA := Lib.hid hA; have HCH := Lib.hid hch
  clear h hX1 hB0 hD hs1 hn hx hW1 hb0 hde hd1 hc1 hu1 hv1 hb hc0 hX2 hX12 hB1 hW2 hb1 hB hch hdm
  have HF0 : ∀ V, Ex W2 V → Hid ((V.cell? ⟨b0, 0, none⟩ = some (.slice (some ad) xs.length dc) ∧ V.cell? ⟨b0, 1, none⟩ = some (.slice la c.labels.length lc) ∧ V.cell? ⟨b0, 2, none⟩ = some (.slice ta c.texts.length tc) ∧ V.cell? ⟨b0, 3, none⟩ = some (.slice ra c.reals.length rc) ∧ V.cell? ⟨b0, 4, none⟩ = some (.slice ia c.instrs.length ic)) ∧
      V.cell? ⟨b1, 0, none⟩ = some (.int .i64 d.around) ∧ V.cell? ⟨b1, 1, none⟩ = some (.slice ca d.chain.length cc) ∧ V.cell? ⟨b1, 3, none⟩ = some (.int .i64 d.offset) ∧ V.cell? ⟨b1, 4, none⟩ = some (.int .i64 d.cells) ∧ V.cell? ⟨b1, 5, none⟩ = some (.slice va d.virts.length vc) ∧
      V.cell? ⟨b1, 6, none⟩ = some (.int .i64 d.init) ∧ V.cell? ⟨b1, 7, none⟩ = some (.int .i64 d.enter) ∧ V.cell? ⟨b1, 8, none⟩ = some (.int .i64 d.do_) ∧ V.cell? ⟨b1, 9, none⟩ = some (.int .i64 d.exit) ∧ V.cell? ⟨b1, 10, none⟩ = some (.int .i64 d.stack)) := fun V hV =>
    ⟨⟨((hV.blk HB0.out id).cell 0).trans rfl, ((hV.blk HB0.out id).cell 1).trans rfl, ((hV.blk HB0.out id).cell 2).trans rfl, ((hV.blk HB0.out id).cell 3).trans rfl, ((hV.blk HB0.out id).cell 4).trans rfl⟩,
     ((hV.blk HB1.out id).cell 0).trans rfl, ((hV.blk HB1.out id).cell 1).trans rfl, ((hV.blk HB1.out id).cell 3).trans rfl, ((hV.blk HB1.out id).cell 4).trans rfl, ((hV.blk HB1.out id).cell 5).trans rfl, ((hV.blk HB1.out id).cell 6).trans rfl, ((hV.blk HB1.out id).cell 7).trans rfl, ((hV.blk HB1.out id).cell 8).trans rfl, ((hV.blk HB1.out id).cell 9).trans rfl, ((hV.blk HB1.out id).cell 10).trans rfl⟩
  unfold codeV
  simp only at e0 e1 e2 e3 e4 e5 e6 e7 e8 e9 e10
  go_enter Tryz.func62, Tryz.ntmps62
  go_upto_region 1 with fail
  try rw [HW1.out]
  try rw [Hb0.out]
  go_upto_region 2 with fail
  rw [HW2.out, Hb1.out]
  clear e0 e1 e2 e3 e4 e5 e6 e7 e8 e9 e10 x0
  obtain ⟨⟨x0, x1, x2, x3, x4⟩, y0, y1, y3, y4, y5, y6, y7, y8, y9, y10⟩ := (HF0 W2 (Keeps.refl _ _)).out
  by_cases a1 : d.around < -1
  · have e : B = false := by rw [← HB.out]; exact descB_around1 Hde.out (by omega)
    subst e
    clear hbad
    go_wp2_with fail
    go_ret
    exact ⟨rfl, HX2.out⟩
  by_cases a2 : (i : Int) ≤ d.around
  · have e : B = false := by rw [← HB.out]; exact descB_around2 Hde.out (by omega)
    subst e
    clear hbad
    go_wp2_with fail
    go_ret
    exact ⟨rfl, HX2.out⟩
  have hcf : chainB c i d = false := by
    rcases hbad with h | h | h
    · omega
    · omega
    · exact h
  have e : B = false := by rw [← HB.out]; exact descB_chain Hde.out hcf
  subst e
  rw [hcf] at HCH
  clear hbad hcf
  go_wp2_with (go_at_call 120; refine HCH.out.mono ?_; rintro e w3 ⟨rfl, hx3⟩; have HX3 := Lib.hid hx3; clear hx3)
  go_ret
  exact ⟨rfl, HX2.out.trans HX3.out⟩
end Go.Proofs.YtlaepkmnbbgbcaaGreatDoor
/- descFits: a descriptor whose chain is itself alone. -/
namespace Go.Proofs.YtlaepkmnbbgbcaaGreatDoor
open Go.RowKit Go.Instr
set_option linter.unusedVariables false
set_option linter.unusedSimpArgs false
attribute [local go_sem] Oper.semAt_some

set_option maxRecDepth 100000 in
set_option maxHeartbeats 40000000 in
theorem descFits_one {w : World} {dv lv tv rv iv : Value} {c : Co} {xs : List DeV} (h : RdCo w dv lv tv rv iv c xs) (hb : Big c) (i : Nat) (hi : i < c.descs.length) (h1 : -1 ≤ (c.de i).around) (h2 : (c.de i).around < i) (h3 : chainB c i (c.de i) = true) (hlen : (c.de i).chain.length = 1) :
    Calls Tryz.prog 62 #[codeV dv lv tv rv iv, .int .i64 i] w fun e w' => e = .returned (.bool (descB c i)) ∧ Ex w w' := by
  obtain ⟨da, dc, rfl, -, hd1, -⟩ := id h.ds
  obtain ⟨la, lc, rfl, -⟩ := id h.ls
  obtain ⟨ta, tc, rfl, -⟩ := id h.ts
  obtain ⟨ra, rc, rfl, -⟩ := id h.rs
  obtain ⟨ia, ic, rfl, -⟩ := id h.is
  have hn := h.len
  have hi' : i < xs.length := by omega
  obtain ⟨x, hx⟩ : ∃ x, xs[i]? = some x := ⟨_, List.getElem?_eq_getElem hi'⟩
  have hde := h.de_at hx
  have hD := h.de x (List.mem_of_getElem? hx)
  obtain ⟨d, cv, uv, vv⟩ := x
  simp only at hde
  rw [hde] at h1 h2 h3 hlen
  have HL := Lib.hid hlen
  clear hlen
  generalize hB : descB c i = B
  obtain ⟨ca, cc, ec, hc0, hc1, -⟩ := id hD.chain
  obtain ⟨ua, uc, eu, -, hu1, -⟩ := id hD.up
  obtain ⟨va, vc, ev, -, hv1, -⟩ := id hD.virts
  simp only at ec eu ev hc0 hc1 hu1 hv1 hD
  subst ec; subst eu; subst ev
  obtain ⟨ad, rfl⟩ : ∃ ad, da = some ad := by
    cases da with
    | none => have := hd1 rfl; subst this; simp at hi'
    | some ad => exact ⟨ad, rfl⟩
  obtain ⟨A, hA⟩ : ∃ A, ad.add (i * 11) = A := ⟨_, rfl⟩
  obtain ⟨W1, hW1⟩ : ∃ W1, w.alloc (.cells #[.slice (some ad) xs.length dc, .slice la c.labels.length lc, .slice ta c.texts.length tc, .slice ra c.reals.length rc, .slice ia c.instrs.length ic] 28) = W1 := ⟨_, rfl⟩
  obtain ⟨b0, hb0⟩ : ∃ b0, w.heap.size = b0 := ⟨_, rfl⟩
  have hX1 : Ex w W1 := by rw [← hW1]; exact (Keeps.refl _ w).alloc _
  have hB0 : Blk W1 b0 #[.slice (some ad) xs.length dc, .slice la c.labels.length lc, .slice ta c.texts.length tc, .slice ra c.reals.length rc, .slice ia c.instrs.length ic] 28 := by rw [← hW1, ← hb0]; exact Blk.new w _ _
  have hs1 : W1.heap.size = b0 + 1 := by rw [← hW1, ← hb0, World.size_alloc]
  have x0 : W1.cell? ⟨b0, 0, none⟩ = some (.slice (some ad) xs.length dc) := (hB0.cell 0).trans rfl
  obtain ⟨e0, e1, e2, e3, e4, e5, e6, e7, e8, e9, e10⟩ := (h.ds.ext hX1).deCells hx hA
  obtain ⟨W2, hW2⟩ : ∃ W2, W1.alloc (.cells (encD ⟨d, .slice ca d.chain.length cc, .slice ua d.up.length uc, .slice va d.virts.length vc⟩).toArray 50) = W2 := ⟨_, rfl⟩
  obtain ⟨b1, hb1⟩ : ∃ b1, W1.heap.size = b1 := ⟨_, rfl⟩
  have hX2 : Ex w W2 := by rw [← hW2]; exact hX1.alloc _
  have hX12 : Ex W1 W2 := by rw [← hW2]; exact (Keeps.refl _ W1).alloc _
  have hB1 : Blk W2 b1 (encD ⟨d, .slice ca d.chain.length cc, .slice ua d.up.length uc, .slice va d.virts.length vc⟩).toArray 50 := by rw [← hW2, ← hb1]; exact Blk.new W1 _ _
  dsimp only [encD] at hW2 hB1
  have hlx : xs.length ≤ 1000000 := by have := hb.d; omega
  have hil : c.instrs.length ≤ 1000000 := hb.i
  have hch := chainFits_any (h.ext hX2) hb i hi
  rw [hde] at hch
  unfold codeV at hch
  have hdm : d ∈ c.descs := by rw [← h.eq]; exact List.mem_map.2 ⟨_, List.mem_of_getElem? hx, rfl⟩
  have hcl : d.chain.length ≤ 1000000 := (hb.e d hdm).1
  have hvl : d.virts.length ≤ 1000000 := (hb.e d hdm).2.2
  have H := Lib.hid h; have HX1 := Lib.hid hX1; have HB0 := Lib.hid (hX12.blk hB0 id); have HD := Lib.hid hD; have HN := Lib.hid hn; have HXx := Lib.hid hx; have HB1 := Lib.hid hB1; have HX2 := Lib.hid hX2
  have HW1 := Lib.hid hW1; have Hb0 := Lib.hid hb0; have Hde := Lib.hid hde; have Hc1 := Lib.hid hc1; have Hu1 := Lib.hid hu1; have Hv1 := Lib.hid hv1; have Hb := Lib.hid hb; have Hc0 := Lib.hid hc0; have HW2 := Lib.hid hW2; have Hb1 := Lib.hid hb1; have HB := Lib.hid hB; have HA := Lib.hid hA; have HCH := Lib.hid hch
  clear h hX1 hB0 hD hs1 hn hx hW1 hb0 hde hd1 hc1 hu1 hv1 hb hc0 hX2 hX12 hB1 hW2 hb1 hB hch hdm
  have HF0 : ∀ V, Ex W2 V → Hid ((V.cell? ⟨b0, 0, none⟩ = some (.slice (some ad) xs.length dc) ∧ V.cell? ⟨b0, 1, none⟩ = some (.slice la c.labels.length lc) ∧ V.cell? ⟨b0, 2, none⟩ = some (.slice ta c.texts.length tc) ∧ V.cell? ⟨b0, 3, none⟩ = some (.slice ra c.reals.length rc) ∧ V.cell? ⟨b0, 4, none⟩ = some (.slice ia c.instrs.length ic)) ∧
      V.cell? ⟨b1, 0, none⟩ = some (.int .i64 d.around) ∧ V.cell? ⟨b1, 1, none⟩ = some (.slice ca d.chain.length cc) ∧ V.cell? ⟨b1, 3, none⟩ = some (.int .i64 d.offset) ∧ V.cell? ⟨b1, 4, none⟩ = some (.int .i64 d.cells) ∧ V.cell? ⟨b1, 5, none⟩ = some (.slice va d.virts.length vc) ∧
      V.cell? ⟨b1, 6, none⟩ = some (.int .i64 d.init) ∧ V.cell? ⟨b1, 7, none⟩ = some (.int .i64 d.enter) ∧ V.cell? ⟨b1, 8, none⟩ = some (.int .i64 d.do_) ∧ V.cell? ⟨b1, 9, none⟩ = some (.int .i64 d.exit) ∧ V.cell? ⟨b1, 10, none⟩ = some (.int .i64 d.stack)) := fun V hV =>
    ⟨⟨((hV.blk HB0.out id).cell 0).trans rfl, ((hV.blk HB0.out id).cell 1).trans rfl, ((hV.blk HB0.out id).cell 2).trans rfl, ((hV.blk HB0.out id).cell 3).trans rfl, ((hV.blk HB0.out id).cell 4).trans rfl⟩,
     ((hV.blk HB1.out id).cell 0).trans rfl, ((hV.blk HB1.out id).cell 1).trans rfl, ((hV.blk HB1.out id).cell 3).trans rfl, ((hV.blk HB1.out id).cell 4).trans rfl, ((hV.blk HB1.out id).cell 5).trans rfl, ((hV.blk HB1.out id).cell 6).trans rfl, ((hV.blk HB1.out id).cell 7).trans rfl, ((hV.blk HB1.out id).cell 8).trans rfl, ((hV.blk HB1.out id).cell 9).trans rfl, ((hV.blk HB1.out id).cell 10).trans rfl⟩
  unfold codeV
  simp only at e0 e1 e2 e3 e4 e5 e6 e7 e8 e9 e10
  go_enter Tryz.func62, Tryz.ntmps62
  go_upto_region 1 with fail
  try rw [HW1.out]
  try rw [Hb0.out]
  go_upto_region 2 with fail
  rw [HW2.out, Hb1.out]
  clear e0 e1 e2 e3 e4 e5 e6 e7 e8 e9 e10 x0
  obtain ⟨⟨x0, x1, x2, x3, x4⟩, y0, y1, y3, y4, y5, y6, y7, y8, y9, y10⟩ := (HF0 W2 (Keeps.refl _ _)).out
  have h1' : ¬ d.around < -1 := by omega
  have h2' : ¬ (i : Int) ≤ d.around := by omega
  rw [h3] at HCH
  have H3 := Lib.hid h3
  clear h3
  have h3 := H3
  clear H3
  go_upto_region 4 with (go_at_call 120; refine HCH.out.mono ?_; rintro e w3 ⟨rfl, hx3⟩; have HX3 := Lib.hid hx3; clear hx3)
  clear x0 x1 x2 x3 x4 y0 y1 y3 y4 y5 y6 y7 y8 y9 y10 h1' h2'
  obtain ⟨⟨x0, x1, x2, x3, x4⟩, y0, y1, y3, y4, y5, y6, y7, y8, y9, y10⟩ := (HF0 w3 HX3.out).out
  rw [HL.out] at y1 hcl
  have HW : Hid (Ex W2 w3) := HX3
  have HBF : Hid (beforeD c d = 0) := Lib.hid (by unfold beforeD; rw [HL.out]; rfl)
  go_upto_region 9 with fail
  by_cases q1 : d.offset < 0
  · have e : B = false := by rw [← HB.out]; exact descB_offset1 Hde.out (by omega)
    subst e
    go_wp2_with fail
    go_ret
    exact ⟨rfl, HX2.out.trans HW.out⟩
  by_cases q2 : d.cells < 0
  · have e : B = false := by rw [← HB.out]; exact descB_cells1 Hde.out (by omega)
    subst e
    go_wp2_with fail
    go_ret
    exact ⟨rfl, HX2.out.trans HW.out⟩
  by_cases q3 : 1500 < d.offset
  · have e : B = false := by rw [← HB.out]; exact descB_offset2 Hde.out (by omega)
    subst e
    go_wp2_with fail
    go_ret
    exact ⟨rfl, HX2.out.trans HW.out⟩
  by_cases q4 : 1500 - d.offset < d.cells
  · have e : B = false := by rw [← HB.out]; exact descB_cells2 Hde.out (by omega)
    subst e
    go_wp2_with fail
    go_ret
    exact ⟨rfl, HX2.out.trans HW.out⟩
  by_cases q5 : d.offset = 0
  case neg =>
    have e : B = false := by rw [← HB.out]; exact descB_before Hde.out (by rw [HBF.out]; exact q5)
    subst e
    have q6 : (d.offset != 0) = true := by simpa using q5
    go_wp2_with fail
    go_ret
    exact ⟨rfl, HX2.out.trans HW.out⟩
  have q5' : (d.offset != 0) = false := by simpa using q5
  have HQ5 := Lib.hid q5
  clear q5
  by_cases q6 : 2000 < (d.virts.length : Int)
  · have e : B = false := by rw [← HB.out]; exact descB_virts Hde.out (by omega)
    subst e
    go_wp2_with fail
    go_ret
    exact ⟨rfl, HX2.out.trans HW.out⟩
  go_wp2_with fail
  clear q5' x0 x1 x2 x3 x4 y0 y1 y3 y4 y5 y6 y7 y8 y9 y10
  go_loopw [89] (fun s wr => ∃ k : Nat, k ≤ d.virts.length ∧ s = .int .i64 k ∧ Hid (Ex W2 wr) ∧ Hid (∀ j, j < k → virtB c d j = true)) (fun s wr => d.virts.length - (intOf s).toNat)
  case atStart => exact ⟨0, Nat.zero_le _, rfl, HW.out, fun j hj => by omega⟩
  case round =>
    obtain ⟨k, hk, rfl, HX, HP⟩ := hrel
    by_cases hlt : k < d.virts.length
    case pos =>
      obtain ⟨vad, rfl⟩ : ∃ a, va = some a := by
        cases va with
        | none => have := Hv1.out rfl; rw [this] at hlt; simp at hlt
        | some a => exact ⟨a, rfl⟩
      have hRV := HD.out.virts
      simp only at hRV
      have hRVw := (hRV.ext HX2.out).ext HX.out
      obtain ⟨VA, hVA⟩ : ∃ VA, vad.add (k * 4) = VA := ⟨_, rfl⟩
      obtain ⟨v0, v1, v2, v3⟩ := hRVw.vtCells hlt hVA
      obtain ⟨v, hv⟩ : ∃ v, d.virts.getD k default = v := ⟨_, rfl⟩
      rw [hv] at v0 v1 v2 v3
      obtain ⟨W4, hW4⟩ : ∃ W4, wr.alloc (.cells (encV v).toArray 88) = W4 := ⟨_, rfl⟩
      obtain ⟨bv, hbv⟩ : ∃ bv, wr.heap.size = bv := ⟨_, rfl⟩
      have hX4 : Ex wr W4 := by rw [← hW4]; exact (Keeps.refl _ wr).alloc _
      have hBv : Blk W4 bv (encV v).toArray 88 := by rw [← hW4, ← hbv]; exact Blk.new wr _ _
      unfold encV at hW4 hBv
      obtain ⟨⟨x0, x1, x2, x3, x4⟩, y0, y1, y3, y4, y5, y6, y7, y8, y9, y10⟩ := (HF0 wr HX.out).out
      go_upto_region 14 with fail
      try rw [hW4]
      try rw [hbv]
      clear x0 x1 x2 x3 x4 y0 y1 y3 y4 y5 y6 y7 y8 y9 y10 v0 v1 v2 v3
      obtain ⟨⟨x0, x1, x2, x3, x4⟩, y0, y1, y3, y4, y5, y6, y7, y8, y9, y10⟩ := (HF0 W4 (HX.out.trans hX4)).out
      rw [HL.out] at y1
      have z0 : W4.cell? ⟨bv, 0, none⟩ = some (.int .i64 v.id) := (hBv.cell 0).trans rfl
      have z1 : W4.cell? ⟨bv, 1, none⟩ = some (.int .i64 v.part) := (hBv.cell 1).trans rfl
      have z2 : W4.cell? ⟨bv, 2, none⟩ = some (.int .i64 v.level) := (hBv.cell 2).trans rfl
      have z3 : W4.cell? ⟨bv, 3, none⟩ = some (.int .i64 v.desc) := (hBv.cell 3).trans rfl
      have HXW := Lib.hid (HX.out.trans hX4)
      have hRV4 := hRVw.ext hX4
      have Hv := Lib.hid hv
      have hvB : virtB c d k = (decide (0 ≤ v.id) && decide (v.id < 2000) && (decide (k = 0) || decide ((d.virts.getD (k - 1) default).id < v.id)) && decide (0 ≤ v.part) && decide (v.part < (1 : Int)) && decide (0 ≤ v.level) && decide (v.level ≤ 2000) && decide (-1 ≤ v.desc) && decide (v.desc < (c.descs.length : Nat))) := by
        unfold virtB; rw [Hv.out, HL.out]; try rfl
      have Hbad : Hid (∀ P, virtB c d k = P → P = false → B = false) := Lib.hid (fun P h1 h2 => by rw [← HB.out]; exact descB_virt Hde.out hlt (h1.trans h2))
      have Hnew : Hid (virtB c d k = true → ∀ j, j < k + 1 → virtB c d j = true) := Lib.hid (fun h j hj => by
        by_cases e : j = k
        · subst e; exact h
        · exact HP.out j (by omega))
      have HvB := Lib.hid hvB
      clear hvB hW4 hbv hX4 hBv hRV hRVw hVA hv
      by_cases r1 : v.id < 0
      · have e : B = false := Hbad.out _ HvB.out (by rw [decide_eq_false (show ¬ 0 ≤ v.id by omega)]; simp)
        subst e
        go_quiet (fail)
        go_wp2_with fail
        go_ret
        exact ⟨rfl, HX2.out.trans (HXW.out.drewN _)⟩
      by_cases r2 : 2000 ≤ v.id
      · have e : B = false := Hbad.out _ HvB.out (by rw [decide_eq_false (show ¬ v.id < 2000 by omega)]; simp)
        subst e
        go_quiet (fail)
        go_wp2_with fail
        go_ret
        exact ⟨rfl, HX2.out.trans (HXW.out.drewN _)⟩
      rcases Nat.eq_zero_or_pos k with r0 | r0
      · subst r0
        clear hRV4
        by_cases r4 : v.part < 0
        · have e : B = false := Hbad.out _ HvB.out (by rw [decide_eq_false (show ¬ 0 ≤ v.part by omega)]; simp)
          subst e
          go_quiet (fail)
          go_wp2_with fail
          go_ret
          exact ⟨rfl, HX2.out.trans (HXW.out.drewN _)⟩
        by_cases r5 : (1 : Int) ≤ v.part
        · have e : B = false := Hbad.out _ HvB.out (by rw [decide_eq_false (show ¬ v.part < (1 : Int) by omega)]; simp)
          subst e
          go_quiet (fail)
          go_wp2_with fail
          go_ret
          exact ⟨rfl, HX2.out.trans (HXW.out.drewN _)⟩
        by_cases r6 : v.level < 0
        · have e : B = false := Hbad.out _ HvB.out (by rw [decide_eq_false (show ¬ 0 ≤ v.level by omega)]; simp)
          subst e
          go_quiet (fail)
          go_wp2_with fail
          go_ret
          exact ⟨rfl, HX2.out.trans (HXW.out.drewN _)⟩
        by_cases r7 : 2000 < v.level
        · have e : B = false := Hbad.out _ HvB.out (by rw [decide_eq_false (show ¬ v.level ≤ 2000 by omega)]; simp)
          subst e
          go_quiet (fail)
          go_wp2_with fail
          go_ret
          exact ⟨rfl, HX2.out.trans (HXW.out.drewN _)⟩
        by_cases r8 : v.desc < -1
        · have e : B = false := Hbad.out _ HvB.out (by rw [decide_eq_false (show ¬ -1 ≤ v.desc by omega)]; simp)
          subst e
          go_quiet (fail)
          go_wp2_with fail
          go_ret
          exact ⟨rfl, HX2.out.trans (HXW.out.drewN _)⟩
        by_cases r9 : (xs.length : Int) ≤ v.desc
        · have e : B = false := Hbad.out _ HvB.out (by rw [decide_eq_false (show ¬ v.desc < (c.descs.length : Nat) by have := HN.out; omega)]; simp)
          subst e
          go_quiet (fail)
          go_wp2_with fail
          go_ret
          exact ⟨rfl, HX2.out.trans (HXW.out.drewN _)⟩
        have Hok : Hid (virtB c d 0 = true) := Lib.hid (by
          have := HN.out
          rw [HvB.out]; simp; omega)
        go_quiet (fail)
        go_wp2_with fail
        go_roundw
        case rel => exact ⟨0 + 1, by omega, by go_num, HXW.out.drewN _, Hnew.out Hok.out⟩
        case measure => simp [intOf]; omega
      · obtain ⟨kp, rfl⟩ : ∃ kp, k = kp + 1 := ⟨k - 1, by omega⟩
        obtain ⟨VP, hVP⟩ : ∃ VP, vad.add (kp * 4) = VP := ⟨_, rfl⟩
        have z4 := (hRV4.vtCells (show kp < d.virts.length by omega) hVP).1
        rw [Nat.add_sub_cancel] at HvB
        obtain ⟨vp, hvp⟩ : ∃ vp, (d.virts.getD kp default).id = vp := ⟨_, rfl⟩
        rw [hvp] at z4 HvB
        clear hRV4 hvp
        have rpos : (0 : Int) < (kp : Int) + 1 := by omega
        by_cases r3 : v.id ≤ vp
        · have e : B = false := Hbad.out _ HvB.out (by rw [decide_eq_false (show ¬ vp < v.id by omega), decide_eq_false (show ¬ kp + 1 = 0 by omega)]; simp)
          subst e
          go_quiet (fail)
          go_wp2_with fail
          go_ret
          exact ⟨rfl, HX2.out.trans (HXW.out.drewN _)⟩
        by_cases r4 : v.part < 0
        · have e : B = false := Hbad.out _ HvB.out (by rw [decide_eq_false (show ¬ 0 ≤ v.part by omega)]; simp)
          subst e
          go_quiet (fail)
          go_wp2_with fail
          go_ret
          exact ⟨rfl, HX2.out.trans (HXW.out.drewN _)⟩
        by_cases r5 : (1 : Int) ≤ v.part
        · have e : B = false := Hbad.out _ HvB.out (by rw [decide_eq_false (show ¬ v.part < (1 : Int) by omega)]; simp)
          subst e
          go_quiet (fail)
          go_wp2_with fail
          go_ret
          exact ⟨rfl, HX2.out.trans (HXW.out.drewN _)⟩
        by_cases r6 : v.level < 0
        · have e : B = false := Hbad.out _ HvB.out (by rw [decide_eq_false (show ¬ 0 ≤ v.level by omega)]; simp)
          subst e
          go_quiet (fail)
          go_wp2_with fail
          go_ret
          exact ⟨rfl, HX2.out.trans (HXW.out.drewN _)⟩
        by_cases r7 : 2000 < v.level
        · have e : B = false := Hbad.out _ HvB.out (by rw [decide_eq_false (show ¬ v.level ≤ 2000 by omega)]; simp)
          subst e
          go_quiet (fail)
          go_wp2_with fail
          go_ret
          exact ⟨rfl, HX2.out.trans (HXW.out.drewN _)⟩
        by_cases r8 : v.desc < -1
        · have e : B = false := Hbad.out _ HvB.out (by rw [decide_eq_false (show ¬ -1 ≤ v.desc by omega)]; simp)
          subst e
          go_quiet (fail)
          go_wp2_with fail
          go_ret
          exact ⟨rfl, HX2.out.trans (HXW.out.drewN _)⟩
        by_cases r9 : (xs.length : Int) ≤ v.desc
        · have e : B = false := Hbad.out _ HvB.out (by rw [decide_eq_false (show ¬ v.desc < (c.descs.length : Nat) by have := HN.out; omega)]; simp)
          subst e
          go_quiet (fail)
          go_wp2_with fail
          go_ret
          exact ⟨rfl, HX2.out.trans (HXW.out.drewN _)⟩
        have Hok : Hid (virtB c d (kp + 1) = true) := Lib.hid (by
          have := HN.out
          rw [HvB.out]; simp; omega)
        go_quiet (fail)
        go_wp2_with fail
        go_roundw
        case rel => exact ⟨(kp + 1) + 1, by omega, by go_num, HXW.out.drewN _, Hnew.out Hok.out⟩
        case measure => simp [intOf]; omega
    case neg =>
      have : k = d.virts.length := by omega
      subst this
      obtain ⟨⟨x0, x1, x2, x3, x4⟩, y0, y1, y3, y4, y5, y6, y7, y8, y9, y10⟩ := (HF0 wr HX.out).out
      go_wp2_with fail
      clear x0 x1 x2 x3 x4 y0 y1 y3 y4 y5 y6 y7 y8 y9 y10
      have HVV := Lib.hid HP.out
      go_loopw [164] (fun s wq => ∃ k : Nat, k ≤ 4 ∧ s = .int .i64 k ∧ Hid (Ex W2 wq) ∧ Hid ((0 < k → placeB c d.init = true) ∧ (1 < k → placeB c d.enter = true) ∧ (2 < k → placeB c d.do_ = true) ∧ (3 < k → placeB c d.exit = true))) (fun s wq => 4 - (intOf s).toNat)
      case atStart => exact ⟨0, Nat.zero_le _, rfl, HX.out, ⟨fun h => by omega, fun h => by omega, fun h => by omega, fun h => by omega⟩⟩
      case round =>
        obtain ⟨k, hk, rfl, HXq, HQ⟩ := hrel
        obtain ⟨⟨x0, x1, x2, x3, x4⟩, y0, y1, y3, y4, y5, y6, y7, y8, y9, y10⟩ := (HF0 wr HXq.out).out
        have HPL : Hid (∀ n, Calls Tryz.prog 121 #[.agg #[.slice (some ad) xs.length dc, .slice la c.labels.length lc, .slice ta c.texts.length tc, .slice ra c.reals.length rc, .slice ia c.instrs.length ic], .int .i64 n] wr fun e w' => e = .returned (.bool (placeB c n)) ∧ Ex wr w') := Lib.hid (fun n => isPlace_any _ _ _ _ _ _ _ _ _ _ _ _ _ _ _ hil n wr)
        have hix := idx4 d.init d.enter d.do_ d.exit wr
        obtain ⟨i0, i1, i2, i3⟩ := hix
        have hkc : k = 0 ∨ k = 1 ∨ k = 2 ∨ k = 3 ∨ k = 4 := by omega
        rcases hkc with rfl | rfl | rfl | rfl | rfl
        · have HF := Lib.hid (HPL.out d.init)
          clear HPL
          rcases (Bool.eq_false_or_eq_true (placeB c d.init)).symm with hp | hp
          · rw [hp] at HF
            have e : B = false := by rw [← HB.out]; exact descB_place Hde.out (by simp [hp])
            subst e
            go_wp2_with (go_at_call 121; refine HF.out.mono ?_; rintro e w7 ⟨rfl, hx7⟩; have HX7 := Lib.hid hx7; clear hx7)
            go_ret
            exact ⟨rfl, HX2.out.trans (HXq.out.trans HX7.out)⟩
          · rw [hp] at HF
            have HQ2 : Hid ((0 < 0 + 1 → placeB c d.init = true) ∧ (1 < 0 + 1 → placeB c d.enter = true) ∧ (2 < 0 + 1 → placeB c d.do_ = true) ∧ (3 < 0 + 1 → placeB c d.exit = true)) := Lib.hid (by
              have := HQ.out
              simp at this ⊢; simp [hp, this])
            clear hp
            go_wp2_with (go_at_call 121; refine HF.out.mono ?_; rintro e w7 ⟨rfl, hx7⟩; have HX7 := Lib.hid hx7; clear hx7)
            go_roundw
            case rel => exact ⟨0 + 1, by omega, rfl, HXq.out.trans HX7.out, HQ2⟩
            case measure => simp [intOf]
        · have HF := Lib.hid (HPL.out d.enter)
          clear HPL
          rcases (Bool.eq_false_or_eq_true (placeB c d.enter)).symm with hp | hp
          · rw [hp] at HF
            have e : B = false := by rw [← HB.out]; exact descB_place Hde.out (by simp [hp])
            subst e
            go_wp2_with (go_at_call 121; refine HF.out.mono ?_; rintro e w7 ⟨rfl, hx7⟩; have HX7 := Lib.hid hx7; clear hx7)
            go_ret
            exact ⟨rfl, HX2.out.trans (HXq.out.trans HX7.out)⟩
          · rw [hp] at HF
            have HQ2 : Hid ((0 < 1 + 1 → placeB c d.init = true) ∧ (1 < 1 + 1 → placeB c d.enter = true) ∧ (2 < 1 + 1 → placeB c d.do_ = true) ∧ (3 < 1 + 1 → placeB c d.exit = true)) := Lib.hid (by
              have := HQ.out
              simp at this ⊢; simp [hp, this])
            clear hp
            go_wp2_with (go_at_call 121; refine HF.out.mono ?_; rintro e w7 ⟨rfl, hx7⟩; have HX7 := Lib.hid hx7; clear hx7)
            go_roundw
            case rel => exact ⟨1 + 1, by omega, rfl, HXq.out.trans HX7.out, HQ2⟩
            case measure => simp [intOf]
        · have HF := Lib.hid (HPL.out d.do_)
          clear HPL
          rcases (Bool.eq_false_or_eq_true (placeB c d.do_)).symm with hp | hp
          · rw [hp] at HF
            have e : B = false := by rw [← HB.out]; exact descB_place Hde.out (by simp [hp])
            subst e
            go_wp2_with (go_at_call 121; refine HF.out.mono ?_; rintro e w7 ⟨rfl, hx7⟩; have HX7 := Lib.hid hx7; clear hx7)
            go_ret
            exact ⟨rfl, HX2.out.trans (HXq.out.trans HX7.out)⟩
          · rw [hp] at HF
            have HQ2 : Hid ((0 < 2 + 1 → placeB c d.init = true) ∧ (1 < 2 + 1 → placeB c d.enter = true) ∧ (2 < 2 + 1 → placeB c d.do_ = true) ∧ (3 < 2 + 1 → placeB c d.exit = true)) := Lib.hid (by
              have := HQ.out
              simp at this ⊢; simp [hp, this])
            clear hp
            go_wp2_with (go_at_call 121; refine HF.out.mono ?_; rintro e w7 ⟨rfl, hx7⟩; have HX7 := Lib.hid hx7; clear hx7)
            go_roundw
            case rel => exact ⟨2 + 1, by omega, rfl, HXq.out.trans HX7.out, HQ2⟩
            case measure => simp [intOf]
        · have HF := Lib.hid (HPL.out d.exit)
          clear HPL
          rcases (Bool.eq_false_or_eq_true (placeB c d.exit)).symm with hp | hp
          · rw [hp] at HF
            have e : B = false := by rw [← HB.out]; exact descB_place Hde.out (by simp [hp])
            subst e
            go_wp2_with (go_at_call 121; refine HF.out.mono ?_; rintro e w7 ⟨rfl, hx7⟩; have HX7 := Lib.hid hx7; clear hx7)
            go_ret
            exact ⟨rfl, HX2.out.trans (HXq.out.trans HX7.out)⟩
          · rw [hp] at HF
            have HQ2 : Hid ((0 < 3 + 1 → placeB c d.init = true) ∧ (1 < 3 + 1 → placeB c d.enter = true) ∧ (2 < 3 + 1 → placeB c d.do_ = true) ∧ (3 < 3 + 1 → placeB c d.exit = true)) := Lib.hid (by
              have := HQ.out
              simp at this ⊢; simp [hp, this])
            clear hp
            go_wp2_with (go_at_call 121; refine HF.out.mono ?_; rintro e w7 ⟨rfl, hx7⟩; have HX7 := Lib.hid hx7; clear hx7)
            go_roundw
            case rel => exact ⟨3 + 1, by omega, rfl, HXq.out.trans HX7.out, HQ2⟩
            case measure => simp [intOf]
        · have hd := descB_last Hde.out h1 h2 h3.out (by omega) (by omega) (by omega) (by omega) (HQ5.out.trans HBF.out.symm) (by omega) HVV.out (HQ.out.1 (by omega)) (HQ.out.2.1 (by omega)) (HQ.out.2.2.1 (by omega)) (HQ.out.2.2.2 (by omega))
          by_cases s1 : d.stack < 0
          · have e : B = false := by rw [← HB.out]; exact descB_stack1 Hde.out (by omega)
            subst e
            clear hd
            go_wp2_with fail
            go_ret
            exact ⟨rfl, HX2.out.trans HXq.out⟩
          · have e : B = decide (d.stack ≤ 200) := by rw [← HB.out]; exact hd (by omega)
            subst e
            clear hd
            have s2 : 0 ≤ d.stack := by omega
            go_wp2_with fail
            go_ret
            exact ⟨rfl, HX2.out.trans HXq.out⟩

end Go.Proofs.YtlaepkmnbbgbcaaGreatDoor
