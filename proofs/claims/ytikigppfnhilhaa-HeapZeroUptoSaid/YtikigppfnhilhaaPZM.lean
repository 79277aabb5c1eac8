/- HeapZero returns true for every input of bulk at most 1048576, and its arguments read behind the call as they read before. -/
import Derived.Test.YtikigppfnhilhaaGPD27
import Derived.Test.YtikigppfnhilhaaGPD53
namespace Go.Proofs.Ytikigppfnhilhaa
open Go.RowKit Go.Instr Go.ChangeShapes Go.WideShapes Go.ChangeAt
set_option linter.unusedVariables false
set_option linter.unusedSimpArgs false

set_option maxRecDepth 100000 in
theorem HeapZero_contract (H : Type) (enc : TypeId × Value → H) (W : World) (base : Nat) (args : Array Value) (ds gs : List (DataW H)) (before : List MemPlace)
    (hval : ∀ (j : Nat) t v, Try.f9.params[j]? = some t → args[j]? = some v → Value.okWide Try.prog W .any base t v)
    (hW : DataW.Whole enc Try.prog Try.f9.params.toList Rows.heapZeroSpec.vars false W args.toList ds gs before) (hk : Rows.uptoSmall H (ds ++ gs) = true) :
    Calls Try.prog 9 args W fun e W' => ∃ v, e = .returned v ∧ Rows.heapZeroSpec.post enc Try.prog Try.f9 false true false false W args v W' := by
  have hW' := hW
  have hlt := hW.lt
  obtain ⟨p, q, hA0, hV, rfl, hfz, hnd⟩ := hW
  have hA : DataW.TrodAll enc Try.prog W 0 (fun _ => true) true Try.f9.params.toList args.toList ds p := hA0
  have hA1 := hA
  rw [Try.params9] at hA hval
  obtain ⟨v0, vs0, d0, ds0, p0, q0, hargs, rfl, rfl, h0, r0⟩ := trodAll_cons hA
  obtain ⟨rfl, rfl, rfl⟩ := trodAll_nil r0
  obtain rfl : args = #[v0] := by cases args; simp_all
  obtain ⟨rfl, rfl⟩ := trodVars_none hV
  obtain ⟨l, hl, hl1, hl2⟩ := open_acts_arg (hval 0 22 v0 rfl rfl) h0
  have hb := bulk_of hk
  have hd2 : Rows.uptoBulk d0 ≤ 1048576 := Nat.le_trans (bulk_part (by simp)) hb
  refine (HeapZero_any hl (Nat.le_trans hl1 hd2) (fun y hy => Nat.le_trans (hl2 y hy) hd2)).mono ?_
  rintro e W' ⟨rfl, hx⟩
  have hbl : Below W.heap.size W W' := hx.below (Nat.le_refl _)
  refine ⟨_, rfl, _, _, _, [], _, _, hW', trodAll_cons_mk (shut_bool Try.underlying4 _) trodAll_mk0, Below.trodAll' laidOut' hbl ?_ hA1 ?_, rfl, hbl.frame _, fun h => by cases h⟩
  · intro t ht
    rw [Try.params9] at ht
    have ht2 : t ∈ [22] := ht
    simp only [List.mem_cons, List.not_mem_nil, or_false] at ht2
    subst ht2
    exact ⟨by kernel_rfl, of_decide_eq_true (by kernel_rfl)⟩
  · exact fun x hx => hlt x (by simpa using hx)

set_option maxRecDepth 100000 in
theorem HeapZero_lifted (os : Os) (started : os.Started) (H : Type) (enc : TypeId × Value → H) (F : Stop.Interp) :
    ReturnsInHanded {} Try.checked os 9 .any ((Rows.OpenSpec.upto Rows.heapZeroSpec).pre6 enc Try.prog Try.f9 Rows.heapZeroUptoRow.domain false) (((Rows.OpenSpec.upto Rows.heapZeroSpec).at F).post enc Try.prog Try.f9 false true false false) := by
  refine returnsInHanded_of_cond (C := Try.checked) (s := Rows.OpenSpec.upto Rows.heapZeroSpec) (k := Rows.uptoSmall) rfl own' started (by kernel_rfl) Try.func9
    (OpenSpec.witness (enc := enc) (C := Try.checked) (s := Rows.OpenSpec.upto Rows.heapZeroSpec) (k := Rows.uptoSmall) rfl false ⟨#[], #[.slice none 0 0], []⟩ 8 (by kernel_rfl) (by kernel_rfl) (by kernel_rfl)
      (x := ([.nil], [], [])) (by kernel_rfl) rfl (by kernel_rfl)) ?_
  intro W base args ds gs before hval hW _ hk _
  exact HeapZero_contract H enc W base args ds gs before hval hW hk

theorem heapZero_upto : Rows.HeapZeroUptoSaid :=
  OpenClaim.holds_of_cond 9 Try.f9 rfl rfl rfl rfl rfl rfl rfl ⟨rfl, rfl, rfl, rfl, rfl⟩ rfl rfl rfl rfl rfl (by kernel_rfl) Try.func9 (by kernel_rfl)
    (of_decide_eq_true (by kernel_rfl)) (by unfold Func.isWrapper; first | (rw [if_pos (by decide +kernel)]; kernel_rfl) | (rw [if_neg (by decide +kernel)]; exact ⟨rfl, rfl⟩))
    (fun os started H enc _ F => HeapZero_lifted os started H enc F)
end Go.Proofs.Ytikigppfnhilhaa
