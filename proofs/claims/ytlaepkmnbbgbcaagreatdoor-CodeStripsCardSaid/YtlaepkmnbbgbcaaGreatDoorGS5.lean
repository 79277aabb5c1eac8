/- The reference's Operand and instruction. The reference's reals: the digits of a number. -/
import Derived.Test.YtlaepkmnbbgbcaaGreatDoorGS2
import Derived.Test.YtlaepkmnbbgbcaaGreatDoorGS3
import Derived.Test.YtlaepkmnbbgbcaaGreatDoorGB16
import Derived.Test.YtlaepkmnbbgbcaaGreatDoorGB9
import Derived.Test.YtlaepkmnbbgbcaaGreatDoorGB10
import Derived.Laws.IdiomStrings
/- The reference's Operand and instruction. -/
namespace Go.Proofs.YtlaepkmnbbgbcaaGreatDoor
open Go.RowKit Go.Instr Go.Shelf
set_option linter.unusedVariables false
set_option linter.unusedSimpArgs false
attribute [local go_sem] Oper.semAt_some

set_option maxRecDepth 100000 in
set_option maxHeartbeats 8000000 in
theorem Operand_any {w : World} {dv lv tv rv iv : Value} {c : Co} {xs : List DeV} (h : RdCo w dv lv tv rv iv c xs) (hb : Big c) {k : Nat} (hk : k ∈ kinds20) (n : Int) :
    Calls Tryz.prog 129 #[codeV dv lv tv rv iv, .int .u8 k, .int .i64 n] w fun e w' => e = .returned (.bool (opB c k n)) ∧ Ex w w' := by
  have hlen := h.len
  obtain ⟨da, dc, rfl, -⟩ := id h.ds
  obtain ⟨la, lc, rfl, -⟩ := id h.ls
  obtain ⟨ta, tc, rfl, -, ht1, -⟩ := id h.ts
  obtain ⟨ra, rc, rfl, -⟩ := id h.rs
  obtain ⟨ia, ic, rfl, -⟩ := id h.is
  obtain ⟨W1, hW1⟩ : ∃ W1, w.alloc (.cells #[.slice da xs.length dc, .slice la c.labels.length lc, .slice ta c.texts.length tc, .slice ra c.reals.length rc, .slice ia c.instrs.length ic] 28) = W1 := ⟨_, rfl⟩
  obtain ⟨b0, hb0⟩ : ∃ b0, w.heap.size = b0 := ⟨_, rfl⟩
  have hX1 : Ex w W1 := by rw [← hW1]; exact (Keeps.refl _ w).alloc _
  have hB0 : Blk W1 b0 #[.slice da xs.length dc, .slice la c.labels.length lc, .slice ta c.texts.length tc, .slice ra c.reals.length rc, .slice ia c.instrs.length ic] 28 := by rw [← hW1, ← hb0]; exact Blk.new w _ _
  have x0 : W1.cell? ⟨b0, 0, none⟩ = some (.slice da xs.length dc) := (hB0.cell 0).trans rfl
  have x1 : W1.cell? ⟨b0, 1, none⟩ = some (.slice la c.labels.length lc) := (hB0.cell 1).trans rfl
  have x2 : W1.cell? ⟨b0, 2, none⟩ = some (.slice ta c.texts.length tc) := (hB0.cell 2).trans rfl
  have x3 : W1.cell? ⟨b0, 3, none⟩ = some (.slice ra c.reals.length rc) := (hB0.cell 3).trans rfl
  have x4 : W1.cell? ⟨b0, 4, none⟩ = some (.slice ia c.instrs.length ic) := (hB0.cell 4).trans rfl
  have l0 : IntKind.i64.wrap ((xs.length : Int) - 1) = (xs.length : Int) - 1 := by have := hb.d; simp [IntKind.wrap_i64]; omega
  have l1 : IntKind.i64.wrap ((c.labels.length : Int) - 1) = (c.labels.length : Int) - 1 := by have := hb.l; simp [IntKind.wrap_i64]; omega
  have l2 : IntKind.i64.wrap ((c.texts.length : Int) - 1) = (c.texts.length : Int) - 1 := by have := hb.t; simp [IntKind.wrap_i64]; omega
  have l3 : IntKind.i64.wrap ((c.reals.length : Int) - 1) = (c.reals.length : Int) - 1 := by have := hb.r; simp [IntKind.wrap_i64]; omega
  have l4 : IntKind.i64.wrap ((c.instrs.length : Int) - 1) = (c.instrs.length : Int) - 1 := by have := hb.i; simp [IntKind.wrap_i64]; omega
  have HT := Lib.hid (h.ts.ext hX1); have HTs := Lib.hid hb.s; have HT1 := Lib.hid ht1
  have HW1 := Lib.hid hW1; have Hb0 := Lib.hid hb0; have HX1 := Lib.hid hX1
  have Hlen := Lib.hid hlen
  clear hW1 hb0 hX1 hB0 h hb ht1 hlen
  generalize hM : (fun (e : Ending) (w' : World) => e = .returned (.bool (opB c k n)) ∧ Ex w w') = M
  have HM := Lib.hid hM
  clear hM
  unfold codeV
  simp only [kinds20, List.mem_cons, List.not_mem_nil, or_false] at hk
  rcases hk with rfl | hk
  · by_cases hr : 0 ≤ n ∧ n ≤ (c.texts.length : Int) - 1
    case neg =>
      have HB : Hid (opB c 105 n = false) := Lib.hid (by
        show (wiB n 0 ((c.texts.length : Nat) - 1) && _) = false
        unfold wiB; rw [← Bool.decide_and, decide_eq_false hr, Bool.false_and])
      have HC := Lib.hid (within_f (w := W1) hr)
      go_enter Tryz.func129, Tryz.ntmps129
      go_upto_region 1 with fail
      rw [HW1.out]
      try rw [Hb0.out]
      go_wp2_with (go_at_call 94; refine HC.out.mono ?_; rintro e w2 ⟨rfl, rfl⟩)
      rw [← HM.out]
      exact ⟨by rw [HB.out] <;> rfl, HX1.out⟩
    case pos =>
      obtain ⟨m, rfl⟩ : ∃ m : Nat, n = (m : Int) := ⟨n.toNat, by omega⟩
      have hm : m < c.texts.length := by omega
      obtain ⟨tad, rfl⟩ : ∃ a, ta = some a := by
        cases ta with
        | none => have := HT1.out rfl; rw [this] at hm; simp at hm
        | some a => exact ⟨a, rfl⟩
      have z := HT.out.str_at hm
      have hmem : c.texts.getD m ⟨#[]⟩ ∈ c.texts := by rw [List.getD_eq_getElem?_getD, List.getElem?_eq_getElem hm]; exact List.getElem_mem hm
      have HCall := Lib.hid (rvalid_any (w := W1) (c.texts.getD m ⟨#[]⟩) (HTs.out _ hmem))
      have HB : Hid (opB c 105 m = intB (c.texts.getD m ⟨#[]⟩)) := Lib.hid (by
        show (wiB m 0 ((c.texts.length : Nat) - 1) && intB (c.texts.getD (m : Int).toNat ⟨#[]⟩)) = _
        unfold wiB; rw [← Bool.decide_and, decide_eq_true hr, Bool.true_and, Int.toNat_natCast])
      have HC := Lib.hid (within_t (w := W1) hr.1 hr.2)
      clear hmem
      generalize c.texts.getD m ⟨#[]⟩ = S at z HCall HB
      go_enter Tryz.func129, Tryz.ntmps129
      go_upto_region 1 with fail
      rw [HW1.out]
      try rw [Hb0.out]
      go_wp2_with (first | (go_at_call 94; refine HC.out.mono ?_; rintro e w2 ⟨rfl, rfl⟩) | (go_at_call 157; refine HCall.out.mono ?_; rintro e w2 ⟨rfl, hx⟩; have HX := Lib.hid (HX1.out.trans hx); clear hx))
      rw [← HM.out]
      exact ⟨by rw [HB.out] <;> rfl, HX.out⟩
  rw [Hlen.out] at x0 l0
  rcases hk with rfl | rfl | rfl | rfl | rfl | rfl | rfl | rfl | rfl | rfl | rfl | rfl | rfl | rfl | rfl | rfl | rfl | rfl | rfl
  all_goals
    go_enter Tryz.func129, Tryz.ntmps129
    go_upto_region 1 with fail
    rw [HW1.out]
    try rw [Hb0.out]
    go_wp2_with (go_at_call 94; refine (within_any _ _ _).mono ?_; rintro e w2 ⟨rfl, rfl⟩)
    rw [← HM.out]
    exact ⟨rfl, HX1.out⟩
/-- The operation's kinds, as a text with two bytes behind. -/
theorem kd_size (op : Int) : (rkn op ++ ⟨#[95, 95]⟩ : ByteArray).size = (rkn op).size + 2 := by rw [ByteArray.size_append]; rfl
theorem kd_get {op : Int} {i : Nat} (h : i < (rkn op ++ ⟨#[95, 95]⟩ : ByteArray).size) : ((rkn op ++ ⟨#[95, 95]⟩ : ByteArray)[i]'h).toNat = kd op i := by
  unfold kd
  rw [List.getD_eq_getElem?_getD, str_get h rfl]; rfl
set_option maxRecDepth 100000 in
set_option maxHeartbeats 8000000 in
theorem instruction_any {w : World} {dv lv tv rv iv : Value} {c : Co} {xs : List DeV} (h : RdCo w dv lv tv rv iv c xs) (hb : Big c) (x : Ins) :
    Calls Tryz.prog 77 #[codeV dv lv tv rv iv, .agg #[.int .i64 x.op, .int .i64 x.a, .int .i64 x.b]] w fun e w' => ∃ E : Int, e = .returned (.int .i64 E) ∧ (E = 0 ↔ insR c x = true) ∧ Ex w w' := by
  have HRd : ∀ V, Ex w V → RdCo V dv lv tv rv iv c xs := fun V hV => h.ext hV
  obtain ⟨da, dc, rfl, -⟩ := id h.ds
  obtain ⟨la, lc, rfl, -⟩ := id h.ls
  obtain ⟨ta, tc, rfl, -⟩ := id h.ts
  obtain ⟨ra, rc, rfl, -⟩ := id h.rs
  obtain ⟨ia, ic, rfl, -⟩ := id h.is
  obtain ⟨W1, hW1⟩ : ∃ W1, w.alloc (.cells #[.slice da xs.length dc, .slice la c.labels.length lc, .slice ta c.texts.length tc, .slice ra c.reals.length rc, .slice ia c.instrs.length ic] 28) = W1 := ⟨_, rfl⟩
  obtain ⟨b0, hb0⟩ : ∃ b0, w.heap.size = b0 := ⟨_, rfl⟩
  have hX01 : Ex w W1 := by rw [← hW1]; exact (Keeps.refl _ w).alloc _
  have hB01 : Blk W1 b0 #[.slice da xs.length dc, .slice la c.labels.length lc, .slice ta c.texts.length tc, .slice ra c.reals.length rc, .slice ia c.instrs.length ic] 28 := by rw [← hW1, ← hb0]; exact Blk.new w _ _
  have hs1 : W1.heap.size = b0 + 1 := by rw [← hW1, World.size_alloc, hb0]
  obtain ⟨W2, hW2⟩ : ∃ W2, W1.alloc (.cells #[.int .i64 x.op, .int .i64 x.a, .int .i64 x.b] 82) = W2 := ⟨_, rfl⟩
  have hX12 : Ex W1 W2 := by rw [← hW2]; exact (Keeps.refl _ W1).alloc _
  have hB1 : Blk W2 (b0 + 1) #[.int .i64 x.op, .int .i64 x.a, .int .i64 x.b] 82 := by rw [← hW2, ← hs1]; exact Blk.new W1 _ _
  have hB0 := hX12.blk hB01 id
  have hX1 := hX01.trans hX12
  have HF : ∀ V, Ex W2 V → Hid (V.cell? ⟨b0, 0, none⟩ = some (.slice da xs.length dc) ∧ V.cell? ⟨b0, 1, none⟩ = some (.slice la c.labels.length lc) ∧ V.cell? ⟨b0, 2, none⟩ = some (.slice ta c.texts.length tc) ∧ V.cell? ⟨b0, 3, none⟩ = some (.slice ra c.reals.length rc) ∧ V.cell? ⟨b0, 4, none⟩ = some (.slice ia c.instrs.length ic) ∧ V.cell? ⟨b0 + 1, 1, none⟩ = some (.int .i64 x.a) ∧ V.cell? ⟨b0 + 1, 2, none⟩ = some (.int .i64 x.b)) := fun V hV =>
    ⟨((hV.blk hB0 id).cell 0).trans rfl, ((hV.blk hB0 id).cell 1).trans rfl, ((hV.blk hB0 id).cell 2).trans rfl, ((hV.blk hB0 id).cell 3).trans rfl, ((hV.blk hB0 id).cell 4).trans rfl, ((hV.blk hB1 id).cell 1).trans rfl, ((hV.blk hB1 id).cell 2).trans rfl⟩
  have y0 : W2.cell? ⟨b0 + 1, 0, none⟩ = some (.int .i64 x.op) := (hB1.cell 0).trans rfl
  have HOp : Hid (∀ k ∈ kinds20, ∀ V n, Ex W2 V → Calls Tryz.prog 129 #[codeV (.slice da xs.length dc) (.slice la c.labels.length lc) (.slice ta c.texts.length tc) (.slice ra c.reals.length rc) (.slice ia c.instrs.length ic), .int .u8 (k : Nat), .int .i64 n] V fun e w' => e = .returned (.bool (opB c k n)) ∧ Ex V w') := Lib.hid (fun k hk V n hV => Operand_any (HRd V (hX1.trans hV)) hb hk n)
  obtain ⟨B, hB⟩ : ∃ B, insR c x = B := ⟨_, rfl⟩
  rw [hB]
  have hB9 : B = (isOp x.op && opB c (kd x.op 0) x.a && opB c (kd x.op 1) x.b) := hB.symm
  have HB := Lib.hid hB9
  have HW1 := Lib.hid hW1; have HW2 := Lib.hid hW2; have Hb0 := Lib.hid hb0; have Hs1 := Lib.hid hs1; have HX1 := Lib.hid hX1
  clear hW1 hW2 hb0 hs1 hX1 hX01 hX12 hB0 hB01 hB1 h hB hB9 HRd hb
  generalize hM : (fun (e : Ending) (w' : World) => ∃ E : Int, e = .returned (.int .i64 E) ∧ (E = 0 ↔ B = true) ∧ Ex w w') = M
  have HM := Lib.hid hM
  clear hM
  unfold codeV at HOp ⊢
  go_enter Tryz.func77, Tryz.ntmps77
  go_upto_region 1 with fail
  rw [HW1.out]
  try rw [Hb0.out]
  try rw [HW2.out]
  try rw [Hs1.out]
  cases hi : isOp x.op with
  | false =>
    have HBf : Hid (B = false) := Lib.hid (by rw [HB.out, hi]; rfl)
    go_wp2_with (go_at_call 32; refine (isop_any _).mono ?_; rintro e w1 ⟨rfl, rfl⟩; rw [hi])
    rw [← HM.out]
    exact ⟨1, rfl, by rw [HBf.out]; simp, HX1.out⟩
  | true =>
    obtain ⟨hk0, hk1, hks⟩ := kd_in hi
    have Hi := Lib.hid hi
    go_wp2_with (go_at_call 32; refine (isop_any _).mono ?_; rintro e w1 ⟨rfl, rfl⟩; rw [Hi.out])
    refine (rkinds_any _).mono ?_
    rintro e w3 ⟨rfl, hx3⟩
    have HX3 := Lib.hid hx3
    have hz := kd_size x.op
    have t0 : 0 < (rkn x.op ++ ⟨#[95, 95]⟩ : ByteArray).size := by omega
    have t1 : 1 < (rkn x.op ++ ⟨#[95, 95]⟩ : ByteArray).size := by omega
    have t1i : (1 : Int) < (rkn x.op ++ ⟨#[95, 95]⟩ : ByteArray).size := by omega
    have g0 := kd_get t0
    have g1 := kd_get t1
    have hzi : ((rkn x.op).size : Int) ≤ 2 := by omega
    have HO0 := Lib.hid (HOp.out _ hk0 w3.drew x.a hx3.drew)
    have HO1 := Lib.hid (fun (V : World) hV => HOp.out _ hk1 V x.b hV)
    obtain ⟨r0, hr0⟩ : ∃ r, opB c (kd x.op 0) x.a = r := ⟨_, rfl⟩
    obtain ⟨r1, hr1⟩ : ∃ r, opB c (kd x.op 1) x.b = r := ⟨_, rfl⟩
    rw [hr0] at HO0
    rw [hr1] at HO1
    have HR0 := Lib.hid hr0; have HR1 := Lib.hid hr1; have HB2 := HB
    rw [hi, Bool.true_and, hr0, hr1] at HB
    clear hx3 hk0 hk1 hks hi hr0 hr1 y0
    go_upto_region 4 with fail
    generalize rkn x.op ++ ⟨#[95, 95]⟩ = K at t0 t1 t1i g0 g1 hz
    obtain ⟨W4, hW4⟩ : ∃ W4, w3.drew = W4 := ⟨_, rfl⟩
    have HX4 := Lib.hid (show Ex _ W4 by rw [← hW4]; exact HX3.out.drew)
    have HS := HF _ HX4.out
    rw [hW4] at HO0
    have HW4 := Lib.hid hW4
    clear hW4 HX3 hz hzi
    cases r0 with
    | false =>

      refine region_U_plain (n := 9) (fun V => V.cell? ⟨b0, 0, none⟩ = some (.slice da xs.length dc) ∧ V.cell? ⟨b0, 1, none⟩ = some (.slice la c.labels.length lc) ∧ V.cell? ⟨b0, 2, none⟩ = some (.slice ta c.texts.length tc) ∧ V.cell? ⟨b0, 3, none⟩ = some (.slice ra c.reals.length rc) ∧ V.cell? ⟨b0, 4, none⟩ = some (.slice ia c.instrs.length ic) ∧ V.cell? ⟨b0 + 1, 1, none⟩ = some (.int .i64 x.a) ∧ V.cell? ⟨b0 + 1, 2, none⟩ = some (.int .i64 x.b)) 13 (by kernel_rfl) ?_
      rw [HW4.out]
      refine anyU_quiet (a2 := ?a0) 0 rfl rfl rfl (by kernel_rfl) (by kernel_rfl) (by kernel_rfl) (by kernel_rfl) (by kernel_rfl) (by kernel_rfl) (fun _ _ _ _ h => h) HS.out ?h0 ?k0
      case h0 => intro W hW K hK; obtain ⟨q0, q1, q2, q3, q4, q5, q6⟩ := hW; go_simp; exact hK
      refine anyU_quiet (a2 := ?a1) 1 rfl rfl rfl (by kernel_rfl) (by kernel_rfl) (by kernel_rfl) (by kernel_rfl) (by kernel_rfl) (by kernel_rfl) (fun _ _ _ _ h => h) HS.out ?h1 ?k1
      case h1 => intro W hW K hK; obtain ⟨q0, q1, q2, q3, q4, q5, q6⟩ := hW; go_simp; exact hK
      refine anyU_quiet (a2 := ?a2) 2 rfl rfl rfl (by kernel_rfl) (by kernel_rfl) (by kernel_rfl) (by kernel_rfl) (by kernel_rfl) (by kernel_rfl) (fun _ _ _ _ h => h) HS.out ?h2 ?k2
      case h2 => intro W hW K hK; obtain ⟨q0, q1, q2, q3, q4, q5, q6⟩ := hW; go_simp; exact hK
      refine anyU_quiet (a2 := ?a3) 3 rfl rfl rfl (by kernel_rfl) (by kernel_rfl) (by kernel_rfl) (by kernel_rfl) (by kernel_rfl) (by kernel_rfl) (fun _ _ _ _ h => h) HS.out ?h3 ?k3
      case h3 => intro W hW K hK; obtain ⟨q0, q1, q2, q3, q4, q5, q6⟩ := hW; go_simp; exact hK
      refine anyU_quiet (a2 := ?a4) 4 rfl rfl rfl (by kernel_rfl) (by kernel_rfl) (by kernel_rfl) (by kernel_rfl) (by kernel_rfl) (by kernel_rfl) (fun _ _ _ _ h => h) HS.out ?h4 ?k4
      case h4 => intro W hW K hK; obtain ⟨q0, q1, q2, q3, q4, q5, q6⟩ := hW; go_simp; exact hK
      refine anyU_only 5 rfl (by kernel_rfl) ?_
      gi_wp2_with fail
      refine (callsIn_WF HO0.out).mono ?_
      rintro e w5 ⟨rfl, hx5⟩
      have HX5 := Lib.hid (HX4.out.trans hx5)
      have HS5 := Lib.hid ((HF w5 HX5.out).out)
      clear hx5
      gi_wp2
      refine And.intro (.inr HS5.out) ?_
      refine anyU_quiet (a2 := ?au2_6) 6 rfl rfl rfl (by kernel_rfl) (by kernel_rfl) (by kernel_rfl) (by kernel_rfl) (by kernel_rfl) (by kernel_rfl) (fun _ _ _ _ h => h) HS5.out ?hu2_6 ?ku2_6
      case hu2_6 => intro W hW K hK; obtain ⟨q0, q1, q2, q3, q4, q5, q6⟩ := hW; go_simp; exact hK
      refine anyU_quiet (a2 := ?au2_7) 7 rfl rfl rfl (by kernel_rfl) (by kernel_rfl) (by kernel_rfl) (by kernel_rfl) (by kernel_rfl) (by kernel_rfl) (fun _ _ _ _ h => h) HS5.out ?hu2_7 ?ku2_7
      case hu2_7 => intro W hW K hK; obtain ⟨q0, q1, q2, q3, q4, q5, q6⟩ := hW; go_simp; exact hK
      refine anyU_quiet (a2 := ?au2_8) 8 rfl rfl rfl (by kernel_rfl) (by kernel_rfl) (by kernel_rfl) (by kernel_rfl) (by kernel_rfl) (by kernel_rfl) (fun _ _ _ _ h => h) HS5.out ?hu2_8 ?ku2_8
      case hu2_8 => intro W hW K hK; obtain ⟨q0, q1, q2, q3, q4, q5, q6⟩ := hW; go_simp; exact hK
      refine anyU_quiet (a2 := ?au2_9) 9 rfl rfl rfl (by kernel_rfl) (by kernel_rfl) (by kernel_rfl) (by kernel_rfl) (by kernel_rfl) (by kernel_rfl) (fun _ _ _ _ h => h) HS5.out ?hu2_9 ?ku2_9
      case hu2_9 => intro W hW K hK; obtain ⟨q0, q1, q2, q3, q4, q5, q6⟩ := hW; go_simp; exact hK
      refine anyU_quiet (a2 := ?au2_10) 10 rfl rfl rfl (by kernel_rfl) (by kernel_rfl) (by kernel_rfl) (by kernel_rfl) (by kernel_rfl) (by kernel_rfl) (fun _ _ _ _ h => h) HS5.out ?hu2_10 ?ku2_10
      case hu2_10 => intro W hW K hK; obtain ⟨q0, q1, q2, q3, q4, q5, q6⟩ := hW; go_simp; exact hK
      refine anyU_quiet (a2 := ?au2_11) 11 rfl rfl rfl (by kernel_rfl) (by kernel_rfl) (by kernel_rfl) (by kernel_rfl) (by kernel_rfl) (by kernel_rfl) (fun _ _ _ _ h => h) HS5.out ?hu2_11 ?ku2_11
      case hu2_11 => intro W hW K hK; obtain ⟨q0, q1, q2, q3, q4, q5, q6⟩ := hW; go_simp; exact hK
      refine anyU_quiet (a2 := ?au2_12) 12 rfl rfl rfl (by kernel_rfl) (by kernel_rfl) (by kernel_rfl) (by kernel_rfl) (by kernel_rfl) (by kernel_rfl) (fun _ _ _ _ h => h) HS5.out ?hu2_12 ?ku2_12
      case hu2_12 => intro W hW K hK; obtain ⟨q0, q1, q2, q3, q4, q5, q6⟩ := hW; go_simp; exact hK
      have HX6 := HX5
      refine anyU_only 13 rfl (by kernel_rfl) ?_
      gi_wp2
      refine And.intro (.inl (by kernel_rfl)) ?_
      refine anyU_only 14 rfl (by kernel_rfl) ?_
      gi_wp2
      refine And.intro (.inl (by kernel_rfl)) ?_
      refine anyU_only 15 rfl (by kernel_rfl) ?_
      gi_wp2
      refine And.intro (.inl (by kernel_rfl)) ?_
      refine anyU_done (by kernel_rfl) ?_ _
      clear HO0 HO1 HS HS5
      go_wp2_with fail
      rw [← HM.out]
      exact ⟨_, rfl, by rw [HB.out]; simp, HX1.out.trans HX6.out⟩
    | true =>
      cases r1 with
      | false =>

        refine region_U_plain (n := 9) (fun V => V.cell? ⟨b0, 0, none⟩ = some (.slice da xs.length dc) ∧ V.cell? ⟨b0, 1, none⟩ = some (.slice la c.labels.length lc) ∧ V.cell? ⟨b0, 2, none⟩ = some (.slice ta c.texts.length tc) ∧ V.cell? ⟨b0, 3, none⟩ = some (.slice ra c.reals.length rc) ∧ V.cell? ⟨b0, 4, none⟩ = some (.slice ia c.instrs.length ic) ∧ V.cell? ⟨b0 + 1, 1, none⟩ = some (.int .i64 x.a) ∧ V.cell? ⟨b0 + 1, 2, none⟩ = some (.int .i64 x.b)) 13 (by kernel_rfl) ?_
        rw [HW4.out]
        refine anyU_quiet (a2 := ?au3_0) 0 rfl rfl rfl (by kernel_rfl) (by kernel_rfl) (by kernel_rfl) (by kernel_rfl) (by kernel_rfl) (by kernel_rfl) (fun _ _ _ _ h => h) HS.out ?hu3_0 ?ku3_0
        case hu3_0 => intro W hW K hK; obtain ⟨q0, q1, q2, q3, q4, q5, q6⟩ := hW; go_simp; exact hK
        refine anyU_quiet (a2 := ?au3_1) 1 rfl rfl rfl (by kernel_rfl) (by kernel_rfl) (by kernel_rfl) (by kernel_rfl) (by kernel_rfl) (by kernel_rfl) (fun _ _ _ _ h => h) HS.out ?hu3_1 ?ku3_1
        case hu3_1 => intro W hW K hK; obtain ⟨q0, q1, q2, q3, q4, q5, q6⟩ := hW; go_simp; exact hK
        refine anyU_quiet (a2 := ?au3_2) 2 rfl rfl rfl (by kernel_rfl) (by kernel_rfl) (by kernel_rfl) (by kernel_rfl) (by kernel_rfl) (by kernel_rfl) (fun _ _ _ _ h => h) HS.out ?hu3_2 ?ku3_2
        case hu3_2 => intro W hW K hK; obtain ⟨q0, q1, q2, q3, q4, q5, q6⟩ := hW; go_simp; exact hK
        refine anyU_quiet (a2 := ?au3_3) 3 rfl rfl rfl (by kernel_rfl) (by kernel_rfl) (by kernel_rfl) (by kernel_rfl) (by kernel_rfl) (by kernel_rfl) (fun _ _ _ _ h => h) HS.out ?hu3_3 ?ku3_3
        case hu3_3 => intro W hW K hK; obtain ⟨q0, q1, q2, q3, q4, q5, q6⟩ := hW; go_simp; exact hK
        refine anyU_quiet (a2 := ?au3_4) 4 rfl rfl rfl (by kernel_rfl) (by kernel_rfl) (by kernel_rfl) (by kernel_rfl) (by kernel_rfl) (by kernel_rfl) (fun _ _ _ _ h => h) HS.out ?hu3_4 ?ku3_4
        case hu3_4 => intro W hW K hK; obtain ⟨q0, q1, q2, q3, q4, q5, q6⟩ := hW; go_simp; exact hK
        refine anyU_only 5 rfl (by kernel_rfl) ?_
        gi_wp2_with fail
        refine (callsIn_WF HO0.out).mono ?_
        rintro e w5 ⟨rfl, hx5⟩
        have HX5 := Lib.hid (HX4.out.trans hx5)
        have HS5 := Lib.hid ((HF w5 HX5.out).out)
        clear hx5
        gi_wp2
        refine And.intro (.inr HS5.out) ?_
        refine anyU_quiet (a2 := ?au4_6) 6 rfl rfl rfl (by kernel_rfl) (by kernel_rfl) (by kernel_rfl) (by kernel_rfl) (by kernel_rfl) (by kernel_rfl) (fun _ _ _ _ h => h) HS5.out ?hu4_6 ?ku4_6
        case hu4_6 => intro W hW K hK; obtain ⟨q0, q1, q2, q3, q4, q5, q6⟩ := hW; go_simp; exact hK
        refine anyU_quiet (a2 := ?au4_7) 7 rfl rfl rfl (by kernel_rfl) (by kernel_rfl) (by kernel_rfl) (by kernel_rfl) (by kernel_rfl) (by kernel_rfl) (fun _ _ _ _ h => h) HS5.out ?hu4_7 ?ku4_7
        case hu4_7 => intro W hW K hK; obtain ⟨q0, q1, q2, q3, q4, q5, q6⟩ := hW; go_simp; exact hK
        refine anyU_quiet (a2 := ?au4_8) 8 rfl rfl rfl (by kernel_rfl) (by kernel_rfl) (by kernel_rfl) (by kernel_rfl) (by kernel_rfl) (by kernel_rfl) (fun _ _ _ _ h => h) HS5.out ?hu4_8 ?ku4_8
        case hu4_8 => intro W hW K hK; obtain ⟨q0, q1, q2, q3, q4, q5, q6⟩ := hW; go_simp; exact hK
        refine anyU_quiet (a2 := ?au4_9) 9 rfl rfl rfl (by kernel_rfl) (by kernel_rfl) (by kernel_rfl) (by kernel_rfl) (by kernel_rfl) (by kernel_rfl) (fun _ _ _ _ h => h) HS5.out ?hu4_9 ?ku4_9
        case hu4_9 => intro W hW K hK; obtain ⟨q0, q1, q2, q3, q4, q5, q6⟩ := hW; go_simp; exact hK
        refine anyU_quiet (a2 := ?au4_10) 10 rfl rfl rfl (by kernel_rfl) (by kernel_rfl) (by kernel_rfl) (by kernel_rfl) (by kernel_rfl) (by kernel_rfl) (fun _ _ _ _ h => h) HS5.out ?hu4_10 ?ku4_10
        case hu4_10 => intro W hW K hK; obtain ⟨q0, q1, q2, q3, q4, q5, q6⟩ := hW; go_simp; exact hK
        refine anyU_quiet (a2 := ?au4_11) 11 rfl rfl rfl (by kernel_rfl) (by kernel_rfl) (by kernel_rfl) (by kernel_rfl) (by kernel_rfl) (by kernel_rfl) (fun _ _ _ _ h => h) HS5.out ?hu4_11 ?ku4_11
        case hu4_11 => intro W hW K hK; obtain ⟨q0, q1, q2, q3, q4, q5, q6⟩ := hW; go_simp; exact hK
        refine anyU_quiet (a2 := ?au4_12) 12 rfl rfl rfl (by kernel_rfl) (by kernel_rfl) (by kernel_rfl) (by kernel_rfl) (by kernel_rfl) (by kernel_rfl) (fun _ _ _ _ h => h) HS5.out ?hu4_12 ?ku4_12
        case hu4_12 => intro W hW K hK; obtain ⟨q0, q1, q2, q3, q4, q5, q6⟩ := hW; go_simp; exact hK
        refine anyU_only 13 rfl (by kernel_rfl) ?_
        gi_wp2_with fail
        refine (callsIn_WF (HO1.out w5 HX5.out)).mono ?_
        rintro e w6 ⟨rfl, hx6⟩
        have HX6 := Lib.hid (HX5.out.trans hx6)
        clear hx6
        gi_wp2
        refine And.intro (.inl (by kernel_rfl)) ?_
        refine anyU_only 14 rfl (by kernel_rfl) ?_
        gi_wp2
        refine And.intro (.inl (by kernel_rfl)) ?_
        refine anyU_only 15 rfl (by kernel_rfl) ?_
        gi_wp2
        refine And.intro (.inl (by kernel_rfl)) ?_
        refine anyU_done (by kernel_rfl) ?_ _
        clear HO0 HO1 HS HS5
        go_wp2_with fail
        rw [← HM.out]
        exact ⟨_, rfl, by rw [HB.out]; simp, HX1.out.trans HX6.out⟩

      | true =>

        refine region_U_plain (n := 9) (fun V => V.cell? ⟨b0, 0, none⟩ = some (.slice da xs.length dc) ∧ V.cell? ⟨b0, 1, none⟩ = some (.slice la c.labels.length lc) ∧ V.cell? ⟨b0, 2, none⟩ = some (.slice ta c.texts.length tc) ∧ V.cell? ⟨b0, 3, none⟩ = some (.slice ra c.reals.length rc) ∧ V.cell? ⟨b0, 4, none⟩ = some (.slice ia c.instrs.length ic) ∧ V.cell? ⟨b0 + 1, 1, none⟩ = some (.int .i64 x.a) ∧ V.cell? ⟨b0 + 1, 2, none⟩ = some (.int .i64 x.b)) 13 (by kernel_rfl) ?_
        rw [HW4.out]
        refine anyU_quiet (a2 := ?au5_0) 0 rfl rfl rfl (by kernel_rfl) (by kernel_rfl) (by kernel_rfl) (by kernel_rfl) (by kernel_rfl) (by kernel_rfl) (fun _ _ _ _ h => h) HS.out ?hu5_0 ?ku5_0
        case hu5_0 => intro W hW K hK; obtain ⟨q0, q1, q2, q3, q4, q5, q6⟩ := hW; go_simp; exact hK
        refine anyU_quiet (a2 := ?au5_1) 1 rfl rfl rfl (by kernel_rfl) (by kernel_rfl) (by kernel_rfl) (by kernel_rfl) (by kernel_rfl) (by kernel_rfl) (fun _ _ _ _ h => h) HS.out ?hu5_1 ?ku5_1
        case hu5_1 => intro W hW K hK; obtain ⟨q0, q1, q2, q3, q4, q5, q6⟩ := hW; go_simp; exact hK
        refine anyU_quiet (a2 := ?au5_2) 2 rfl rfl rfl (by kernel_rfl) (by kernel_rfl) (by kernel_rfl) (by kernel_rfl) (by kernel_rfl) (by kernel_rfl) (fun _ _ _ _ h => h) HS.out ?hu5_2 ?ku5_2
        case hu5_2 => intro W hW K hK; obtain ⟨q0, q1, q2, q3, q4, q5, q6⟩ := hW; go_simp; exact hK
        refine anyU_quiet (a2 := ?au5_3) 3 rfl rfl rfl (by kernel_rfl) (by kernel_rfl) (by kernel_rfl) (by kernel_rfl) (by kernel_rfl) (by kernel_rfl) (fun _ _ _ _ h => h) HS.out ?hu5_3 ?ku5_3
        case hu5_3 => intro W hW K hK; obtain ⟨q0, q1, q2, q3, q4, q5, q6⟩ := hW; go_simp; exact hK
        refine anyU_quiet (a2 := ?au5_4) 4 rfl rfl rfl (by kernel_rfl) (by kernel_rfl) (by kernel_rfl) (by kernel_rfl) (by kernel_rfl) (by kernel_rfl) (fun _ _ _ _ h => h) HS.out ?hu5_4 ?ku5_4
        case hu5_4 => intro W hW K hK; obtain ⟨q0, q1, q2, q3, q4, q5, q6⟩ := hW; go_simp; exact hK
        refine anyU_only 5 rfl (by kernel_rfl) ?_
        gi_wp2_with fail
        refine (callsIn_WF HO0.out).mono ?_
        rintro e w5 ⟨rfl, hx5⟩
        have HX5 := Lib.hid (HX4.out.trans hx5)
        have HS5 := Lib.hid ((HF w5 HX5.out).out)
        clear hx5
        gi_wp2
        refine And.intro (.inr HS5.out) ?_
        refine anyU_quiet (a2 := ?au6_6) 6 rfl rfl rfl (by kernel_rfl) (by kernel_rfl) (by kernel_rfl) (by kernel_rfl) (by kernel_rfl) (by kernel_rfl) (fun _ _ _ _ h => h) HS5.out ?hu6_6 ?ku6_6
        case hu6_6 => intro W hW K hK; obtain ⟨q0, q1, q2, q3, q4, q5, q6⟩ := hW; go_simp; exact hK
        refine anyU_quiet (a2 := ?au6_7) 7 rfl rfl rfl (by kernel_rfl) (by kernel_rfl) (by kernel_rfl) (by kernel_rfl) (by kernel_rfl) (by kernel_rfl) (fun _ _ _ _ h => h) HS5.out ?hu6_7 ?ku6_7
        case hu6_7 => intro W hW K hK; obtain ⟨q0, q1, q2, q3, q4, q5, q6⟩ := hW; go_simp; exact hK
        refine anyU_quiet (a2 := ?au6_8) 8 rfl rfl rfl (by kernel_rfl) (by kernel_rfl) (by kernel_rfl) (by kernel_rfl) (by kernel_rfl) (by kernel_rfl) (fun _ _ _ _ h => h) HS5.out ?hu6_8 ?ku6_8
        case hu6_8 => intro W hW K hK; obtain ⟨q0, q1, q2, q3, q4, q5, q6⟩ := hW; go_simp; exact hK
        refine anyU_quiet (a2 := ?au6_9) 9 rfl rfl rfl (by kernel_rfl) (by kernel_rfl) (by kernel_rfl) (by kernel_rfl) (by kernel_rfl) (by kernel_rfl) (fun _ _ _ _ h => h) HS5.out ?hu6_9 ?ku6_9
        case hu6_9 => intro W hW K hK; obtain ⟨q0, q1, q2, q3, q4, q5, q6⟩ := hW; go_simp; exact hK
        refine anyU_quiet (a2 := ?au6_10) 10 rfl rfl rfl (by kernel_rfl) (by kernel_rfl) (by kernel_rfl) (by kernel_rfl) (by kernel_rfl) (by kernel_rfl) (fun _ _ _ _ h => h) HS5.out ?hu6_10 ?ku6_10
        case hu6_10 => intro W hW K hK; obtain ⟨q0, q1, q2, q3, q4, q5, q6⟩ := hW; go_simp; exact hK
        refine anyU_quiet (a2 := ?au6_11) 11 rfl rfl rfl (by kernel_rfl) (by kernel_rfl) (by kernel_rfl) (by kernel_rfl) (by kernel_rfl) (by kernel_rfl) (fun _ _ _ _ h => h) HS5.out ?hu6_11 ?ku6_11
        case hu6_11 => intro W hW K hK; obtain ⟨q0, q1, q2, q3, q4, q5, q6⟩ := hW; go_simp; exact hK
        refine anyU_quiet (a2 := ?au6_12) 12 rfl rfl rfl (by kernel_rfl) (by kernel_rfl) (by kernel_rfl) (by kernel_rfl) (by kernel_rfl) (by kernel_rfl) (fun _ _ _ _ h => h) HS5.out ?hu6_12 ?ku6_12
        case hu6_12 => intro W hW K hK; obtain ⟨q0, q1, q2, q3, q4, q5, q6⟩ := hW; go_simp; exact hK
        refine anyU_only 13 rfl (by kernel_rfl) ?_
        gi_wp2_with fail
        refine (callsIn_WF (HO1.out w5 HX5.out)).mono ?_
        rintro e w6 ⟨rfl, hx6⟩
        have HX6 := Lib.hid (HX5.out.trans hx6)
        clear hx6
        gi_wp2
        refine And.intro (.inl (by kernel_rfl)) ?_
        refine anyU_only 14 rfl (by kernel_rfl) ?_
        gi_wp2
        refine And.intro (.inl (by kernel_rfl)) ?_
        refine anyU_only 15 rfl (by kernel_rfl) ?_
        gi_wp2
        refine And.intro (.inl (by kernel_rfl)) ?_
        refine anyU_done (by kernel_rfl) ?_ _
        clear HO0 HO1 HS HS5
        go_wp2_with fail
        rw [← HM.out]
        exact ⟨_, rfl, by rw [HB.out]; simp, HX1.out.trans HX6.out⟩
end Go.Proofs.YtlaepkmnbbgbcaaGreatDoor
/- The reference's reals: the digits of a number. -/
namespace Go.Proofs.YtlaepkmnbbgbcaaGreatDoor
open Go.RowKit Go.Instr Go.Sort
set_option linter.unusedVariables false
set_option linter.unusedSimpArgs false
attribute [local go_sem] Oper.semAt_some

/-- append of one int, to a row of a named type. -/
theorem wpList_appT {w : World} {ops : Array Oper} {rest : List Oper} {o : Oper} {a : Act} {Q : Exit → Act → World → Prop} (t : TypeId) (htu : Tryz.prog.underlying t = some (.slice 3)) (hgd : o.guard = none) (s x : Operand)
    (ho : o.op = .call { callee := .builtin .append, args := #[s, x], argTypes := #[t, t] })
    (base : Nat) (v : Value) (l1 : List Int) (hs : a.eval s = v) (hown : OwnI w base v l1) (u : Addr) (n : Int) (hx : a.eval x = .slice (some u) 1 1) (hrow : w.cell? u = some (.int .i64 n))
    (hl : l1.length + 1 ≤ 1000000000) (hbase : base ≤ w.heap.size)
    (h : ∀ v' w', OwnI w' base v' (l1 ++ [n]) → ExV v w w' → (∀ k, v'.ownBlock = some k → v.ownBlock = some k ∨ w.heap.size ≤ k) → wpList Tryz.prog ops Q rest (a.put o.dst v') w') : wpList Tryz.prog ops Q (o :: rest) a w := by
  obtain ⟨i0, hi, hz0, hz1, hz2⟩ := info_split info_intC
  refine wpList_append_fresh hgd s x t ho base 3 i0 _ 1 8 htu hi hz0 hz1 hz2 rfl (by decide) v l1.length _ hs hown u 1 _ [.int .i64 n] hx rfl (fun j z hz => ?_) (by intro u hu; obtain rfl : u = .int .i64 n := (by simpa using hu); rfl) (by unfold maxLen; omega) (by omega) hbase ?_
  · cases j with
    | zero => simp at hz; subst hz; rw [Addr.add_zero']; exact hrow
    | succ j => simp at hz
  · intro v' w' g1 g2 g3 g4
    refine h v' w' ?_ ⟨g2.os, g2.tape, g2.output, g2.size, fun k hk hn => g2.block k hk (fun e => hn e.symm)⟩ g4
    unfold OwnI
    rw [List.map_append, List.length_append]; exact g1
/-- append of one byte. -/
def OwnU (w : World) (base : Nat) (v : Value) (l : List UInt8) : Prop := w.ownsRow base 5 1 v l.length (l.map fun b => Value.int .u8 b.toNat)
set_option maxRecDepth 100000 in
set_option maxHeartbeats 2000000 in
theorem trim_any {w : World} {ad : Addr} {n c : Nat} {l : List Int} {y : Int} (h : RdL encI w (.slice (some ad) (n + 1) c) l) (hn : n ≤ 1000000) (hy : l[n]? = some y) (hy0 : ¬ y = 0) :
    Calls Tryz.prog 155 #[.slice (some ad) (n + 1) c] w fun e w' => e = .returned (.slice (some ad) (n + 1) c) ∧ w' = w := by
  have hl : l.length = n + 1 := by obtain ⟨_, _, e, -⟩ := h; injection e with _ e _; exact e.symm
  have hc : n + 1 ≤ c := by obtain ⟨_, _, e, h2, -⟩ := h; injection e with _ e1 e2; subst e2; rw [← hl]; exact h2
  have z : w.cell? (ad.add n) = some (.int .i64 y) := by
    have := h.int_at (k := n) (by omega)
    rw [List.getD_eq_getElem?_getD, hy] at this; exact this
  have s1 : IntKind.i64.wrap ((n : Int) + 1 - 1) = (n : Int) := by simp [IntKind.wrap_i64]; omega
  have hyb : (y == 0) = false := by simpa using hy0
  have HC := Lib.hid hc
  clear h hy
  go_enter Tryz.func155, Tryz.ntmps155
  go_wp2_with fail
  go_loopw [3] (fun s wr => s = .int .i64 ((n : Int) + 1) ∧ wr = w) (fun s wr => 0)
  case atStart => exact ⟨rfl, rfl⟩
  case round =>
    obtain ⟨rfl, rfl⟩ := hrel
    go_wp2_with fail
    go_ret
    exact ⟨rfl, rfl⟩
theorem dgs_small {n : Int} (h : I64 n) : (dgs n.natAbs).length ≤ 19 := by
  rw [dgs_le]
  unfold I64 at h
  have : (10 : Nat) ^ 19 = 10000000000000000000 := by decide
  omega
def natI (L : List Nat) : List Int := L.map Int.ofNat
theorem natI_len (L : List Nat) : (natI L).length = L.length := by simp [natI]
theorem own_blkN {w w' : World} {v : Value} {base b : Nat} {l : List Int} (ho : OwnI w base v l) (hx : ExV v w w') {cs : Array Value} {t : TypeId} (hb : Blk w b cs t) (hlt : b < base) : Blk w' b cs t := by
  refine hx.blk hb (fun h => ?_)
  rcases ho.form with ⟨rfl, -⟩ | ⟨g, cap, rfl, hg, -⟩
  · cases h
  · injection h with h; have h : g = b := h; omega
theorem tdiv_i64 {n : Int} (h : I64 n) : I64 (n.tdiv 10) := by
  unfold I64 at *
  have h1 : (n.tdiv 10).natAbs = n.natAbs / 10 := Int.natAbs_tdiv n 10
  have h2 : n.natAbs ≤ 9223372036854775808 := by omega
  have h3 : (n.tdiv 10).natAbs ≤ 922337203685477580 := by rw [h1]; omega
  omega
theorem tmod_abs (n : Int) : (n.tmod 10).natAbs = n.natAbs % 10 := Int.natAbs_tmod n 10
theorem digit_is {n : Int} (h : I64 n) : max (n.tmod 10) (wrap64 (-n.tmod 10)) = ((n.natAbs % 10 : Nat) : Int) := by
  have h1 := tmod_abs n
  have h2 : n.natAbs % 10 < 10 := Nat.mod_lt _ (by omega)
  have h3 : wrap64 (-n.tmod 10) = -n.tmod 10 := by unfold wrap64; omega
  rw [h3, Int.max_def]
  split <;> omega
theorem OwnI.set_below {w : World} {base b : Nat} {v : Value} {l : List Int} (h : OwnI w base v l) (hb : b < base) {i : Nat} (u : Value) : OwnI (w.setCell ⟨b, i, none⟩ u) base v l := by
  refine own_far h (fun k hk => ?_) u
  rcases h.form with ⟨rfl, -⟩ | ⟨g, cap, rfl, hg, -⟩
  · cases hk
  · injection hk with hk; have hk : g = k := hk; show k ≠ b; omega
set_option maxRecDepth 100000 in
set_option maxHeartbeats 4000000 in
theorem FromInt_any {w : World} (n : Int) (hn : I64 n) (h0 : ¬ n = 0) {S : ByteArray}
    (hT : ∀ (W : World) (v : Value), RdL encI W v (natI (dgs n.natAbs)) → Ex w W → Calls Tryz.prog 156 #[.agg #[v, .bool (decide (n < 0))]] W fun e w' => e = .returned (.string S) ∧ Ex W w') :
    Calls Tryz.prog 128 #[.int .i64 n] w fun e w' => e = .returned (.string S) ∧ Ex w w' := by
  obtain ⟨bo, hbo⟩ : ∃ b, w.heap.size = b := ⟨_, rfl⟩
  obtain ⟨W1, hW1⟩ : ∃ W1, w.alloc (.cells #[.slice none 0 0, .bool false] 171) = W1 := ⟨_, rfl⟩
  have hX1 : Ex w W1 := by rw [← hW1]; exact (Keeps.refl _ w).alloc _
  have hB1 : Blk W1 bo #[.slice none 0 0, .bool false] 171 := by rw [← hW1, ← hbo]; exact Blk.new w _ _
  have hs1 : W1.heap.size = bo + 1 := by rw [← hW1, World.size_alloc, hbo]
  obtain ⟨neg, hneg⟩ : ∃ b, decide (n < 0) = b := ⟨_, rfl⟩
  rw [hneg] at hT
  obtain ⟨W2, hW2⟩ : ∃ W2, W1.setCell ⟨bo, 1, none⟩ (.bool neg) = W2 := ⟨_, rfl⟩
  have hB2 : Blk W2 bo #[.slice none 0 0, .bool neg] 171 := by rw [← hW2]; exact hB1.set 1 _
  have hX2 : Ex w W2 := by rw [← hW2]; exact hX1.setCell (.inr (by rw [hbo]; exact Nat.le_refl _)) _
  have hs2 : W2.heap.size = bo + 1 := by rw [← hW2, World.size_setCell, hs1]
  have f1 : W1.frozen? ⟨bo, 1, none⟩ = false := hB1.frozen _
  have q1 : W1.cell? ⟨bo, 1, none⟩ = some (.bool false) := (hB1.cell 1).trans rfl
  have hsm := dgs_small hn
  have hb0 : (n == 0) = false := by simpa using h0
  have HW1 := Lib.hid hW1; have Hbo := Lib.hid hbo; have HW2 := Lib.hid hW2; have HB2 := Lib.hid hB2; have HX2 := Lib.hid hX2; have Hs2 := Lib.hid hs2; have HT := Lib.hid hT; have Hsm := Lib.hid hsm; have HN := Lib.hid hn
  clear hW1 hbo hW2 hB1 hX1 hB2 hX2 hs1 hs2 hT hsm hn
  go_enter Tryz.func128, Tryz.ntmps128
  go_upto_region 4 with fail
  rw [HW1.out]
  try rw [Hbo.out]
  go_upto_region 5 with fail
  try rw [HW2.out]
  go_loopw [0] (fun s wr => ∃ (cur : Int) (L : List Nat) (v : Value), s = .int .i64 cur ∧ Hid (I64 cur) ∧ Hid (dgs n.natAbs = L ++ dgs cur.natAbs) ∧ Hid (Blk wr bo #[v, .bool neg] 171) ∧ Hid (OwnI wr (bo + 1) v (natI L)) ∧ Hid (Ex w wr)) (fun s wr => (intOf s).natAbs)
  case atStart => exact ⟨n, [], _, rfl, HN, Lib.hid rfl, HB2, Lib.hid (World.ownsRow_nil W2 _ _ 1), HX2⟩
  case round =>
    obtain ⟨cur, L, v, rfl, HC, HD, HB, HO, HX⟩ := hrel
    obtain ⟨oa, oc, rfl⟩ : ∃ oa oc, v = .slice oa L.length oc := by
      rcases HO.out.form with ⟨rfl, h2⟩ | ⟨g, cap, rfl, -⟩
      · exact ⟨none, 0, by have := congrArg List.length h2; rw [natI_len] at this; rw [this]; rfl⟩
      · exact ⟨_, _, by rw [natI_len]⟩
    have e0 : wr.cell? ⟨bo, 0, none⟩ = some (.slice oa L.length oc) := (HB.out.cell 0).trans rfl
    have e1 : wr.cell? ⟨bo, 1, none⟩ = some (.bool neg) := (HB.out.cell 1).trans rfl
    by_cases hc0 : cur = 0
    case pos =>
      subst hc0
      have hLd : L = dgs n.natAbs := by have := HD.out; rw [show (0 : Int).natAbs = 0 from rfl, dgs_zero, List.append_nil] at this; exact this.symm
      have hR : RdL encI wr (.slice oa L.length oc) (natI (dgs n.natAbs)) := by
        have h9 := HO.out
        unfold OwnI at h9
        rw [← encI_flat] at h9
        rw [← hLd]
        exact own_rd encI_len h9
      have HCall := Lib.hid (HT.out wr _ hR HX.out)
      clear hLd hR
      go_wp2_with fail
      refine HCall.out.mono ?_
      rintro e w9 ⟨rfl, hx9⟩
      have HX9 := Lib.hid (HX.out.trans hx9)
      clear hx9
      go_wp2_with fail
      go_ret
      exact ⟨rfl, HX9.out⟩
    case neg =>
      go_upto_region 6 with fail
      go_wp2_with (at_builtin; refine (fun h => h trivial : (True → _) → _) ?_)
      intro _
      have hdig : max (cur.tmod 10) (wrap64 (-cur.tmod 10)) = ((cur.natAbs % 10 : Nat) : Int) := digit_is HC.out
      rw [hdig]
      clear hdig
      obtain ⟨W3, hW3⟩ : ∃ W3, wr.alloc (.cells #[.int .i64 ((cur.natAbs % 10 : Nat) : Int)] 3) = W3 := ⟨_, rfl⟩
      obtain ⟨b3, hb3⟩ : ∃ b, wr.heap.size = b := ⟨_, rfl⟩
      have hX3 : Ex wr W3 := by rw [← hW3]; exact (Keeps.refl _ _).alloc _
      have hz3 : W3.cell? ⟨b3, 0, none⟩ = some (.int .i64 ((cur.natAbs % 10 : Nat) : Int)) := by rw [← hW3, ← hb3]; exact ((Blk.new wr _ _).cell 0).trans rfl
      have hs3 : bo + 1 ≤ W3.heap.size := by have h1 := HX.out.size; have h2 := hX3.size; have h3 := HB.out.lt; omega
      have hdd : dgs cur.natAbs = cur.natAbs % 10 :: dgs (cur.natAbs / 10) := dgs_pos (by omega)
      have hD2 : dgs n.natAbs = (L ++ [cur.natAbs % 10]) ++ dgs (cur.natAbs / 10) := by rw [HD.out, hdd]; simp
      have hll : L.length ≤ 19 := by have := congrArg List.length HD.out; rw [List.length_append] at this; have := Hsm.out; omega
      rw [hW3, hb3]
      have HX3 := Lib.hid hX3; have HZ3 := Lib.hid hz3; have HS3 := Lib.hid hs3; have HD2 := Lib.hid hD2; have HO3 : Hid (OwnI W3 (bo + 1) (.slice oa L.length oc) (natI L)) := Lib.hid (HO.out.kept hX3 fun _ _ => id)
      clear hX3 hz3 hs3 hdd hD2 hW3 hb3
      refine wpList_appT 169 Tryz.underlying169 rfl _ _ rfl (bo + 1) _ _ rfl HO3.out _ _ rfl HZ3.out (by rw [natI_len]; omega) HS3.out ?_
      intro v6 w6 ho6 hx6 _
      have hl6 : natI L ++ [((cur.natAbs % 10 : Nat) : Int)] = natI (L ++ [cur.natAbs % 10]) := by unfold natI; rw [List.map_append]; rfl
      rw [hl6] at ho6
      have hB6 : Blk w6 bo #[.slice oa L.length oc, .bool neg] 171 := own_blkN HO3.out hx6 (HX3.out.blk HB.out id) (by omega)
      have hX6 : Ex w w6 := (HX.out.trans HX3.out).ex HO3.out (by rw [Hbo.out]; omega) hx6
      have f6 : w6.frozen? ⟨bo, 0, none⟩ = false := hB6.frozen _
      have q6 : w6.cell? ⟨bo, 0, none⟩ = some (.slice oa L.length oc) := (hB6.cell 0).trans rfl
      obtain ⟨oa6, oc6, rfl⟩ : ∃ oa oc, v6 = .slice oa (L.length + 1) oc := by
        rcases ho6.form with ⟨rfl, h2⟩ | ⟨g, cap, rfl, -⟩
        · have := congrArg List.length h2; rw [natI_len] at this; simp at this
        · exact ⟨_, _, by rw [natI_len, List.length_append]; rfl⟩
      obtain ⟨W7, hW7⟩ : ∃ W7, w6.setCell ⟨bo, 0, none⟩ (.slice oa6 (L.length + 1) oc6) = W7 := ⟨_, rfl⟩
      have HB7 : Hid (Blk W7 bo #[.slice oa6 (L.length + 1) oc6, .bool neg] 171) := Lib.hid (by rw [← hW7]; exact hB6.set 0 _)
      have HX7 : Hid (Ex w W7) := Lib.hid (by rw [← hW7]; exact hX6.setCell (.inr (by rw [Hbo.out]; exact Nat.le_refl _)) _)
      have HO7 : Hid (OwnI W7 (bo + 1) (.slice oa6 (L.length + 1) oc6) (natI (L ++ [cur.natAbs % 10]))) := Lib.hid (by rw [← hW7]; exact ho6.set_below (by omega) _)
      have HW7 := Lib.hid hW7
      have hC2 : Hid (I64 (cur.tdiv 10)) := Lib.hid (tdiv_i64 HC.out)
      have hN2 : (cur.tdiv 10).natAbs = cur.natAbs / 10 := Int.natAbs_tdiv cur 10
      have HN2 := Lib.hid hN2
      have s5 : wrap64 (cur.tdiv 10) = cur.tdiv 10 := by have := hC2.out; unfold I64 at this; unfold wrap64; omega
      clear ho6 hx6 hl6 hB6 hX6 hW7 e0 e1 hN2
      go_wp2_with fail
      try rw [HW7.out]
      go_roundw
      case rel => exact ⟨cur.tdiv 10, L ++ [cur.natAbs % 10], _, congrArg (Value.int .i64) s5, hC2, Lib.hid (by rw [HN2.out]; exact HD2.out), HB7, HO7, HX7⟩
      case measure => show (wrap64 (cur.tdiv 10)).natAbs < cur.natAbs; rw [s5, HN2.out]; omega
end Go.Proofs.YtlaepkmnbbgbcaaGreatDoor
