/- The reference's Valid of reals. -/
import Derived.Test.YtlaepkmnbbgbcaaGreatDoorGS6
import Derived.Test.YtlaepkmnbbgbcaaGreatDoorGS3
/- The reference's Valid of reals. -/
namespace Go.Proofs.YtlaepkmnbbgbcaaGreatDoor
open Go.RowKit Go.Instr Go.Sort
set_option linter.unusedVariables false
set_option linter.unusedSimpArgs false
attribute [local go_sem] Oper.semAt_some

theorem Of_any {w : World} {s : ByteArray} {D : List Nat} {n : Nat} {neg : Bool} (hs : s.data.toList = txU D neg) (hD : D.length = n + 1) (hd : ∀ d ∈ D, d < 10) (hlast : ∀ d, D.getLast? = some d → d ≠ 0) (hl : n ≤ 100) :
    Calls Tryz.prog 127 #[.string s] w fun e w' => (∃ a c, e = .returned (.agg #[.slice a (n + 1) c, .bool neg])) ∧ Ex w w' := by
  cases neg with
  | false => exact Of_plain hs hD hd hlast hl
  | true => exact Of_neg hs hD hd hlast hl
set_option maxRecDepth 100000 in
set_option maxHeartbeats 4000000 in
theorem rreal_any {w : World} (man exp : Int) (hm : I64 man) : Calls Tryz.prog 76 #[.agg #[.int .i64 man, .int .i64 exp]] w fun e w' => e = .returned (.bool (rvB (man, exp))) ∧ Ex w w' := by
  obtain ⟨b1, hb1⟩ : ∃ b, w.heap.size = b := ⟨_, rfl⟩
  obtain ⟨W1, hW1⟩ : ∃ W1, w.alloc (.cells #[.int .i64 man, .int .i64 exp] 94) = W1 := ⟨_, rfl⟩
  have hX1 : Ex w W1 := by rw [← hW1]; exact (Keeps.refl _ w).alloc _
  have hB1 : Blk W1 b1 #[.int .i64 man, .int .i64 exp] 94 := by rw [← hW1, ← hb1]; exact Blk.new w _ _
  have HF : ∀ V, Ex W1 V → Hid (V.cell? ⟨b1, 0, none⟩ = some (.int .i64 man) ∧ V.cell? ⟨b1, 1, none⟩ = some (.int .i64 exp)) := fun V hV =>
    ⟨((hV.blk hB1 id).cell 0).trans rfl, ((hV.blk hB1 id).cell 1).trans rfl⟩
  obtain ⟨B, hB⟩ : ∃ B, rvB (man, exp) = B := ⟨_, rfl⟩
  rw [hB]
  unfold rvB wiB at hB
  simp only at hB
  have HW1 := Lib.hid hW1; have Hb1 := Lib.hid hb1; have HX1 := Lib.hid hX1
  clear hW1 hb1 hB1 hX1
  obtain ⟨x0, x1⟩ := (HF W1 (Keeps.refl _ _)).out
  generalize hM : (fun (e : Ending) (w' : World) => e = .returned (.bool B) ∧ Ex w w') = M
  have HM := Lib.hid hM
  clear hM
  by_cases h0 : man = 0
  · subst h0
    rw [if_pos rfl] at hB
    have HB := Lib.hid hB
    clear hB
    go_enter Tryz.func76, Tryz.ntmps76
    go_upto_region 1 with fail
    rw [HW1.out]
    try rw [Hb1.out]
    go_wp2_with fail
    rw [← HM.out]
    refine ⟨?_, HX1.out⟩
    rw [← HB.out]; rfl
  rw [if_neg h0] at hB
  have hsm := dgs_small hm
  obtain ⟨n, hn⟩ : ∃ n, (dgs man.natAbs).length = n + 1 := by
    rw [dgs_pos (by omega)]; exact ⟨_, rfl⟩
  rw [hn] at hsm hB
  obtain ⟨neg, hneg⟩ : ∃ b, decide (man < 0) = b := ⟨_, rfl⟩
  have HFI : Hid (Calls Tryz.prog 128 #[.int .i64 man] W1 fun e w' => e = .returned (.string ⟨(txU (dgs man.natAbs) neg).toArray⟩) ∧ Ex W1 w') := Lib.hid (FromInt_any man hm h0 (fun W v hR hx => by
    rw [hneg]
    exact Text_any hR (by intro h; rw [h] at hn; simp at hn) (dgs_lt _) (by omega)))
  have HOf : Hid (∀ V, Calls Tryz.prog 127 #[.string ⟨(txU (dgs man.natAbs) neg).toArray⟩] V fun e w' => (∃ a c, e = .returned (.agg #[.slice a (n + 1) c, .bool neg])) ∧ Ex V w') := Lib.hid (fun V =>
    Of_any (D := dgs man.natAbs) rfl hn (dgs_lt _) (dgs_last _) (by omega))
  have hmb : (man == 0) = false := by simpa using h0
  have HB := Lib.hid hB
  clear hB hneg hn
  go_enter Tryz.func76, Tryz.ntmps76
  go_upto_region 1 with fail
  rw [HW1.out]
  try rw [Hb1.out]
  go_wp2_with fail
  refine HFI.out.mono ?_
  rintro e w2 ⟨rfl, hx2⟩
  have HX2 := Lib.hid hx2
  clear hx2
  go_wp2_with fail
  refine (HOf.out w2).mono ?_
  rintro e w3 ⟨⟨a, c, rfl⟩, hx3⟩
  have HX3 := Lib.hid (HX2.out.trans hx3)
  clear hx3 x0 x1
  obtain ⟨W4, hW4⟩ : ∃ W4, w3.alloc (.cells #[.slice a (n + 1) c, .bool neg] 171) = W4 := ⟨_, rfl⟩
  obtain ⟨b4, hb4⟩ : ∃ b, w3.heap.size = b := ⟨_, rfl⟩
  have HX4 : Hid (Ex W1 W4) := Lib.hid (by rw [← hW4]; exact HX3.out.alloc _)
  have y0 : W4.cell? ⟨b4, 0, none⟩ = some (.slice a (n + 1) c) := by rw [← hW4, ← hb4]; exact ((Blk.new w3 _ _).cell 0).trans rfl
  have HW4 := Lib.hid hW4; have Hb4 := Lib.hid hb4
  clear hW4 hb4
  go_upto_region 4 with fail
  rw [HW4.out]
  try rw [Hb4.out]
  obtain ⟨x0, x1⟩ := (HF W4 HX4.out).out
  by_cases c1 : n + 1 = 12
  case neg =>
    have c1b : (((n : Int) + 1) == 12) = false := by rw [beq_eq_false_iff_ne]; omega
    have HBf : Hid (B = false) := Lib.hid (by rw [← HB.out, decide_eq_false c1]; rfl)
    go_wp2_with fail
    rw [← HM.out]
    exact ⟨by rw [HBf.out] <;> rfl, HX1.out.trans HX4.out⟩
  have c1b : (((n : Int) + 1) == 12) = true := by rw [beq_iff_eq]; omega
  by_cases c2 : -111 ≤ exp
  case neg =>
    have HBf : Hid (B = false) := Lib.hid (by rw [← HB.out, decide_eq_false c2, Bool.false_and, Bool.and_false])
    clear c1
    go_wp2_with fail
    rw [← HM.out]
    exact ⟨by rw [HBf.out] <;> rfl, HX1.out.trans HX4.out⟩
  have HBf : Hid (B = decide (exp ≤ 88)) := Lib.hid (by rw [← HB.out, decide_eq_true c2, decide_eq_true c1, Bool.true_and, Bool.true_and])
  clear c1
  go_wp2_with fail
  rw [← HM.out]
  exact ⟨by rw [HBf.out] <;> rfl, HX1.out.trans HX4.out⟩
end Go.Proofs.YtlaepkmnbbgbcaaGreatDoor
