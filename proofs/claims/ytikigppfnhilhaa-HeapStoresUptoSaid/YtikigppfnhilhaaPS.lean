/- HeapStores returns true for every input of bulk at most 1048576, and its arguments read behind the call as they read before. -/
import Derived.Test.YtikigppfnhilhaaLO
import Derived.Test.YtikigppfnhilhaaLK
namespace Go.Proofs.Ytikigppfnhilhaa
open Go.RowKit Go.Instr Go.ChangeShapes Go.WideShapes Go.ChangeAt
set_option linter.unusedVariables false
set_option linter.unusedSimpArgs false

theorem laidOut' : laidOutB Try.prog = true := by kernel_rfl
theorem own' : ownKnob Try.prog.godebug = none := by kernel_rfl
theorem Below.trodAll' {H : Type} {enc : TypeId × Value → H} {P : Program} (hl : laidOutB P = true) {W W' : World} (hb : Below W.heap.size W W') :
    ∀ {ts : List TypeId} {vs : List Value} {ds : List (DataW H)} {ps : List MemPlace}, (∀ t ∈ ts, P.readableRec t = true ∧ t < P.types.size) → DataW.TrodAll enc P W 0 (fun _ => true) true ts vs ds ps → (∀ x ∈ ps, x.block < W.heap.size) →
      DataW.TrodAll enc P W' 0 (fun b => decide (b < W.heap.size)) true ts vs ds ps
  | [], [], [], ps, _, h, _ => h
  | t :: ts, v :: vs, d :: ds, ps, hr, h, hlt => by
    obtain ⟨p, q, h1, h2, rfl⟩ := h
    exact ⟨p, q, Below.trod hl (hr t (by simp)).1 (hr t (by simp)).2 h1 hb (fun x hx => hlt x (List.mem_append_left _ hx)), Below.trodAll' hl hb (fun t ht => hr t (by simp [ht])) h2 (fun x hx => hlt x (List.mem_append_right _ hx)), rfl⟩
  | [], _ :: _, _, _, _, h, _ => h.elim
  | [], [], _ :: _, _, _, h, _ => h.elim
  | _ :: _, [], _, _, _, h, _ => h.elim
  | _ :: _, _ :: _, [], _, _, h, _ => h.elim
theorem bulk_of {H : Type} {l : List (DataW H)} (hk : Rows.uptoSmall H l = true) : Rows.uptoBulkAll l ≤ 1048576 := of_decide_eq_true hk
theorem cells_one {v : Value} (hv : ∀ cs, v ≠ .agg cs) : v.cells = #[v] := by
  cases v <;> first | rfl | exact (hv _ rfl).elim
section
variable {H : Type} {enc : TypeId × Value → H} {w : World}
set_option maxRecDepth 100000 in
theorem open_acts_arg {b0 : Nat} {v : Value} {d : DataW H} {ps : List MemPlace} (hval : Value.okWide Try.prog w .any b0 22 v) (hd : DataW.Trod enc Try.prog w 0 (fun _ => true) true 22 v d ps) :
    ∃ l, RdA w v l ∧ l.length ≤ Rows.uptoBulk d ∧ ∀ y ∈ l, y.roots.length ≤ Rows.uptoBulk d := by
  obtain ⟨fuel, h⟩ := hd
  obtain ⟨a, c, l, hc, h1, h2, h3⟩ := open_acts h
  refine ⟨l, ?_, h2, h3⟩
  have hv : v = .slice a l.length c := by
    rw [cells_one fun cs e => by subst e; simp [Value.okWide, Try.underlying22, Cell.okWide, Cell.ok] at hval] at hc
    simpa using hc
  rw [hv]; exact h1
set_option maxRecDepth 100000 in
theorem open_words_arg {b0 : Nat} {v : Value} {d : DataW H} {ps : List MemPlace} (hval : Value.okWide Try.prog w .any b0 23 v) (hd : DataW.Trod enc Try.prog w 0 (fun _ => true) true 23 v d ps) :
    ∃ ws, RdW w v ws ∧ ws.length ≤ Rows.uptoBulk d := by
  obtain ⟨fuel, h⟩ := hd
  obtain ⟨a, c, l, hc, h1, h2⟩ := open_words h
  refine ⟨l, ?_, h2⟩
  have hv : v = .slice a l.length c := by
    rw [cells_one fun cs e => by subst e; simp [Value.okWide, Try.underlying23, Cell.okWide, Cell.ok] at hval] at hc
    simpa using hc
  rw [hv]; exact h1
set_option maxRecDepth 100000 in
theorem open_word_arg {b0 : Nat} {v : Value} {d : DataW H} {ps : List MemPlace} (hval : Value.okWide Try.prog w .any b0 33 v) (hd : DataW.Trod enc Try.prog w 0 (fun _ => true) true 33 v d ps) :
    ∃ u : Wd, v = u.val := by
  obtain ⟨fuel, h⟩ := hd
  obtain ⟨u, hu⟩ := open_word h
  refine ⟨u, ?_⟩
  have hv : ∃ cs, v = .agg cs := by
    simp only [Value.okWide, Try.underlying33] at hval
    obtain ⟨cs, e, _⟩ := hval
    exact ⟨cs, e⟩
  obtain ⟨cs, rfl⟩ := hv
  have h2 : cs.toList = u.cells := hu
  unfold Wd.val
  rw [← h2]
end

set_option maxRecDepth 100000 in
theorem HeapStores_contract (H : Type) (enc : TypeId × Value → H) (W : World) (base : Nat) (args : Array Value) (ds gs : List (DataW H)) (before : List MemPlace)
    (hval : ∀ (j : Nat) t v, Try.f4.params[j]? = some t → args[j]? = some v → Value.okWide Try.prog W .any base t v)
    (hW : DataW.Whole enc Try.prog Try.f4.params.toList Rows.heapStoresSpec.vars false W args.toList ds gs before) (hk : Rows.uptoSmall H (ds ++ gs) = true) :
    Calls Try.prog 4 args W fun e W' => ∃ v, e = .returned v ∧ Rows.heapStoresSpec.post enc Try.prog Try.f4 false true false false W args v W' := by
  have hW' := hW
  have hlt := hW.lt
  obtain ⟨p, q, hA0, hV, rfl, hfz, hnd⟩ := hW
  have hA : DataW.TrodAll enc Try.prog W 0 (fun _ => true) true Try.f4.params.toList args.toList ds p := hA0
  have hA1 := hA
  rw [Try.params4] at hA hval
  obtain ⟨v0, vs0, d0, ds0, p0, q0, hargs, rfl, rfl, h0, r0⟩ := trodAll_cons hA
  obtain ⟨v1, vs1, d1, ds1, p1, q1, rfl, rfl, rfl, h1, r1⟩ := trodAll_cons r0
  obtain ⟨v2, vs2, d2, ds2, p2, q2, rfl, rfl, rfl, h2, r2⟩ := trodAll_cons r1
  obtain ⟨v3, vs3, d3, ds3, p3, q3, rfl, rfl, rfl, h3, r3⟩ := trodAll_cons r2
  obtain ⟨v4, vs4, d4, ds4, p4, q4, rfl, rfl, rfl, h4, r4⟩ := trodAll_cons r3
  obtain ⟨v5, vs5, d5, ds5, p5, q5, rfl, rfl, rfl, h5, r5⟩ := trodAll_cons r4
  obtain ⟨rfl, rfl, rfl⟩ := trodAll_nil r5
  obtain rfl : args = #[v0, v1, v2, v3, v4, v5] := by cases args; simp_all
  obtain ⟨rfl, rfl⟩ := trodVars_none hV
  obtain ⟨a0, rfl, rfl, rfl, w0⟩ := open_int Try.underlying3 (hval 0 3 v0 rfl rfl) h0
  obtain ⟨a1, rfl, rfl, rfl, w1⟩ := open_int Try.underlying3 (hval 1 3 v1 rfl rfl) h1
  obtain ⟨l, hl, hl1, hl2⟩ := open_acts_arg (hval 2 22 v2 rfl rfl) h2
  obtain ⟨a3, rfl, rfl, rfl, w3⟩ := open_int Try.underlying3 (hval 3 3 v3 rfl rfl) h3
  obtain ⟨a4, rfl, rfl, rfl, w4⟩ := open_int Try.underlying3 (hval 4 3 v4 rfl rfl) h4
  obtain ⟨u, rfl⟩ := open_word_arg (hval 5 33 v5 rfl rfl) h5
  have hb := bulk_of hk
  have hd2 : Rows.uptoBulk d2 ≤ 1048576 := Nat.le_trans (bulk_part (by simp)) hb
  refine (HeapStores_any a0 a1 a3 a4 u hl (Nat.le_trans hl1 hd2) (fun y hy => Nat.le_trans (hl2 y hy) hd2)).mono ?_
  rintro e W' ⟨rfl, hx⟩
  have hbl : Below W.heap.size W W' := hx.below (Nat.le_refl _)
  refine ⟨_, rfl, _, _, _, [], _, _, hW', trodAll_cons_mk (shut_bool Try.underlying4 _) trodAll_mk0, Below.trodAll' laidOut' hbl ?_ hA1 ?_, rfl, hbl.frame _, fun h => by cases h⟩
  · intro t ht
    rw [Try.params4] at ht
    have ht2 : t ∈ [3, 3, 22, 3, 3, 33] := ht
    simp only [List.mem_cons, List.not_mem_nil, or_false] at ht2
    rcases ht2 with rfl | rfl | rfl | rfl | rfl | rfl
    all_goals exact ⟨by kernel_rfl, of_decide_eq_true (by kernel_rfl)⟩
  · exact fun x hx => hlt x (by simpa using hx)

set_option maxRecDepth 100000 in
theorem HeapStores_lifted (os : Os) (started : os.Started) (H : Type) (enc : TypeId × Value → H) (F : Stop.Interp) :
    ReturnsInHanded {} Try.checked os 4 .any ((Rows.OpenSpec.upto Rows.heapStoresSpec).pre6 enc Try.prog Try.f4 Rows.heapStoresUptoRow.domain false) (((Rows.OpenSpec.upto Rows.heapStoresSpec).at F).post enc Try.prog Try.f4 false true false false) := by
  refine returnsInHanded_of_cond (C := Try.checked) (s := Rows.OpenSpec.upto Rows.heapStoresSpec) (k := Rows.uptoSmall) rfl own' started (by kernel_rfl) Try.func4
    (OpenSpec.witness (enc := enc) (C := Try.checked) (s := Rows.OpenSpec.upto Rows.heapStoresSpec) (k := Rows.uptoSmall) rfl false ⟨#[], #[.int .i64 0, .int .i64 0, .slice none 0 0, .int .i64 0, .int .i64 0, .agg #[.int .i64 0, .int .i64 0, .int .i64 0, .string .empty, .int .i64 0, .int .i64 0]], []⟩ 8 (by kernel_rfl) (by kernel_rfl) (by kernel_rfl)
      (x := ([.lit (.int .i64 0), .lit (.int .i64 0), .nil, .lit (.int .i64 0), .lit (.int .i64 0), .agg [.lit (.int .i64 0), .lit (.int .i64 0), .lit (.int .i64 0), .lit (.string []), .agg [.lit (.int .i64 0), .lit (.int .i64 0)]]], [], [])) (by kernel_rfl) rfl (by kernel_rfl)) ?_
  intro W base args ds gs before hval hW _ hk _
  exact HeapStores_contract H enc W base args ds gs before hval hW hk

theorem heapStores_upto : Rows.HeapStoresUptoSaid :=
  OpenClaim.holds_of_cond 4 Try.f4 rfl rfl rfl rfl rfl rfl rfl ⟨rfl, rfl, rfl, rfl, rfl⟩ rfl rfl rfl rfl rfl (by kernel_rfl) Try.func4 (by kernel_rfl)
    (of_decide_eq_true (by kernel_rfl)) (by unfold Func.isWrapper; first | (rw [if_pos (by decide +kernel)]; kernel_rfl) | (rw [if_neg (by decide +kernel)]; exact ⟨rfl, rfl⟩))
    (fun os started H enc _ F => HeapStores_lifted os started H enc F)
end Go.Proofs.Ytikigppfnhilhaa
