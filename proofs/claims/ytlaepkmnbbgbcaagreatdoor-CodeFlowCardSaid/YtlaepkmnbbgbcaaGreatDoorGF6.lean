/- CodeFlow: the card: it returns true for every input, and the input reads as it did. (Written by wip/tools/genClaim.py.) -/
import Derived.Test.YtlaepkmnbbgbcaaGreatDoorGF1
import Derived.Test.YtlaepkmnbbgbcaaGreatDoorGF5
import Derived.Test.YtlaepkmnbbgbcaaGreatDoorTie
/- CodeFlow: the card: it returns true for every input, and the input reads as it did. (Written by wip/tools/genClaim.py.) -/
namespace Go.Proofs.YtlaepkmnbbgbcaaGreatDoor
open Go.RowKit Go.Instr Go.ChangeShapes Go.WideShapes Go.ChangeAt
open Go.ChangeMaps (open_string shut_string)
set_option linter.unusedVariables false
set_option linter.unusedSimpArgs false

set_option maxRecDepth 100000 in
theorem codeFlow_witness (os : Os) (H : Type) (enc : TypeId × Value → H) : ∃ (w : World) (tape : Tape) (i : Input), w.os = os ∧ (w.forCall tape i).Shaped Tryz.checked.prog ∧ i.vars = [] ∧ Input.okWide Tryz.checked.prog (w.forCall tape i) .any w.heap.size 9 i ∧
      (OpenSpec.ofChange Rows.codeFlowSpec).preRow enc Tryz.checked.prog Tryz.f9 Rows.codeFlowRow.domain false Rows.codeFlowRow.laid (w.forCall tape i).memory i.args ∧ ({} : Assume).holds Tryz.checked.prog (lone (Frame.enter Tryz.checked.prog 9 i.args .normal) [] (w.forCall tape i)) := by
  have hok : Input.okWideB Tryz.prog ((laidW os).forCall (fun _ _ => 0) ⟨#[], #[.agg #[.slice none 0 0, .slice none 0 0, .slice none 0 0, .slice none 0 0, .slice none 0 0]], []⟩) 9 ⟨#[], #[.agg #[.slice none 0 0, .slice none 0 0, .slice none 0 0, .slice none 0 0, .slice none 0 0]], []⟩ = true := by kernel_rfl
  refine ⟨laidW os, fun _ _ => 0, ⟨#[], #[.agg #[.slice none 0 0, .slice none 0 0, .slice none 0 0, .slice none 0 0, .slice none 0 0]], []⟩, World.laidAll_os _ _ _, World.shaped_of_ZipB (by kernel_rfl) (by kernel_rfl), rfl, (Input.okWide_of_okWideB hok).2, ?_, ?_⟩
  · exact OpenSpec.preRow_of_cond 8 (x := ([.agg [.nil, .nil, .nil, .nil, .nil]], [], [])) (by kernel_rfl) (by kernel_rfl) (fun k hk => by cases hk) (by kernel_rfl) (laidW_met os _)
  · simp only [Assume.holds]
    exact ⟨by simp, by simp, fun h => (by cases h), by simp, by simp⟩
theorem codeFlow_reads : Tryz.f9.params.toList.all (fun t => Tryz.prog.readableRec t && decide (t < Tryz.prog.types.size)) = true := by kernel_rfl
set_option maxRecDepth 100000 in
theorem CodeFlow_lifted (os : Os) (started : os.Started) (H : Type) (enc : TypeId × Value → H) (F : Stop.Interp) :
    ReturnsInHanded {} Tryz.checked os 9 .any ((OpenSpec.ofChange Rows.codeFlowSpec).preRow enc Tryz.prog Tryz.f9 Rows.codeFlowRow.domain false Rows.codeFlowRow.laid) (((OpenSpec.ofChange Rows.codeFlowSpec).at F).post enc Tryz.prog Tryz.f9 false true false false) := by
  refine returnsInHanded_of_row (C := Tryz.checked) (s := OpenSpec.ofChange Rows.codeFlowSpec) own' started (by kernel_rfl) Tryz.func9 (codeFlow_witness os H enc) ?_
  intro W base args ds gs before hval0 hW _ _ _ hL hsh _
  have hval : ∀ (j : Nat) t v, Tryz.f9.params[j]? = some t → args[j]? = some v → Value.okWide Tryz.prog W .any base t v := hval0
  have hW' := hW
  have hlt := hW.lt
  obtain ⟨p, q, hA0, hV, rfl, hfz, hnd⟩ := hW
  have hA : DataW.TrodAll enc Tryz.prog W 0 (fun _ => true) true Tryz.f9.params.toList args.toList ds p := hA0
  have hA1 := hA
  rw [Tryz.params9] at hA hval
  obtain ⟨v0, vs0, d0, ds0, p0, q0, hargs, rfl, rfl, h0, r0⟩ := trodAll_cons hA
  obtain ⟨rfl, rfl, rfl⟩ := trodAll_nil r0
  obtain rfl : args = #[v0] := by cases args; simp_all
  obtain ⟨rfl, rfl⟩ := trodVars_none hV
  obtain ⟨dv0, lv0, tv0, rv0, iv0, c0, xs0, rfl, hrd0, hnum0⟩ := open_code_arg (hval 0 28 v0 rfl rfl) h0
  have hm := mx_of hsh
  have ht := tab_of (laidL_met.1 hL)
  refine (CodeFlow_any hm ht hrd0).mono ?_
  rintro e W' ⟨rfl, hx⟩
  have hbl : Below W.heap.size W W' := hx.below (Nat.le_refl _) (fun _ h => h.elim)
  refine ⟨_, rfl, _, _, _, [], _, _, hW', trodAll_mk1 (shut_bool Tryz.underlying4 _), Below.trodAll' laidOut' hbl ?_ hA1 ?_, rfl, hbl.frame _, fun h => by cases h⟩
  · intro t ht
    have := List.all_eq_true.1 codeFlow_reads t ht
    simp only [Bool.and_eq_true, decide_eq_true_eq] at this
    exact this
  · exact fun x hx => hlt x (by simpa using hx)
end Go.Proofs.YtlaepkmnbbgbcaaGreatDoor
