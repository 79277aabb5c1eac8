/- What the claims about heaps share: layout, bulk, arguments opened. -/
import Derived.Test.YtikigppfnhilhaaLO
namespace Go.Proofs.Ytikigppfnhilhaa
open Go.RowKit Go.Instr Go.ChangeShapes Go.WideShapes Go.ChangeAt
set_option linter.unusedVariables false
set_option linter.unusedSimpArgs false

theorem laidOut' : laidOutB Try.prog = true := by kernel_rfl
theorem own' : ownKnob Try.prog.godebug = none := by kernel_rfl
theorem Below.trodAll' {H : Type} {enc : TypeId × Value → H} {P : Program} (hl : laidOutB P = true) {W W' : World} (hb : Below W.heap.size W W') :
    ∀ {ts : List TypeId} {vs : List Value} {ds : List (DataW H)} {ps : List MemPlace}, (∀ t ∈ ts, P.readableRec t = true ∧ t < P.types.size) → DataW.TrodAll enc P W 0 (fun _ => true) true ts vs ds ps → (∀ x ∈ ps, x.block < W.heap.size) →
      DataW.TrodAll enc P W' 0 (fun b => decide (b < W.heap.size)) true ts vs ds ps
  | [], [], [], ps, _, h, _ => h
  | t :: ts, v :: vs, d :: ds, ps, hr, h, hlt => by
    obtain ⟨p, q, h1, h2, rfl⟩ := h
    exact ⟨p, q, Below.trod hl (hr t (by simp)).1 (hr t (by simp)).2 h1 hb (fun x hx => hlt x (List.mem_append_left _ hx)), Below.trodAll' hl hb (fun t ht => hr t (by simp [ht])) h2 (fun x hx => hlt x (List.mem_append_right _ hx)), rfl⟩
  | [], _ :: _, _, _, _, h, _ => h.elim
  | [], [], _ :: _, _, _, h, _ => h.elim
  | _ :: _, [], _, _, _, h, _ => h.elim
  | _ :: _, _ :: _, [], _, _, h, _ => h.elim
theorem bulk_of {H : Type} {l : List (DataW H)} (hk : Rows.uptoSmall H l = true) : Rows.uptoBulkAll l ≤ 1048576 := of_decide_eq_true hk
theorem cells_one {v : Value} (hv : ∀ cs, v ≠ .agg cs) : v.cells = #[v] := by
  cases v <;> first | rfl | exact (hv _ rfl).elim
section
variable {H : Type} {enc : TypeId × Value → H} {w : World}
set_option maxRecDepth 100000 in
theorem open_acts_arg {b0 : Nat} {v : Value} {d : DataW H} {ps : List MemPlace} (hval : Value.okWide Try.prog w .any b0 22 v) (hd : DataW.Trod enc Try.prog w 0 (fun _ => true) true 22 v d ps) :
    ∃ l, RdA w v l ∧ l.length ≤ Rows.uptoBulk d ∧ ∀ y ∈ l, y.roots.length ≤ Rows.uptoBulk d := by
  obtain ⟨fuel, h⟩ := hd
  obtain ⟨a, c, l, hc, h1, h2, h3⟩ := open_acts h
  refine ⟨l, ?_, h2, h3⟩
  have hv : v = .slice a l.length c := by
    rw [cells_one fun cs e => by subst e; simp [Value.okWide, Try.underlying22, Cell.okWide, Cell.ok] at hval] at hc
    simpa using hc
  rw [hv]; exact h1
set_option maxRecDepth 100000 in
theorem open_words_arg {b0 : Nat} {v : Value} {d : DataW H} {ps : List MemPlace} (hval : Value.okWide Try.prog w .any b0 23 v) (hd : DataW.Trod enc Try.prog w 0 (fun _ => true) true 23 v d ps) :
    ∃ ws, RdW w v ws ∧ ws.length ≤ Rows.uptoBulk d := by
  obtain ⟨fuel, h⟩ := hd
  obtain ⟨a, c, l, hc, h1, h2⟩ := open_words h
  refine ⟨l, ?_, h2⟩
  have hv : v = .slice a l.length c := by
    rw [cells_one fun cs e => by subst e; simp [Value.okWide, Try.underlying23, Cell.okWide, Cell.ok] at hval] at hc
    simpa using hc
  rw [hv]; exact h1
set_option maxRecDepth 100000 in
theorem open_word_arg {b0 : Nat} {v : Value} {d : DataW H} {ps : List MemPlace} (hval : Value.okWide Try.prog w .any b0 33 v) (hd : DataW.Trod enc Try.prog w 0 (fun _ => true) true 33 v d ps) :
    ∃ u : Wd, v = u.val := by
  obtain ⟨fuel, h⟩ := hd
  obtain ⟨u, hu⟩ := open_word h
  refine ⟨u, ?_⟩
  have hv : ∃ cs, v = .agg cs := by
    simp only [Value.okWide, Try.underlying33] at hval
    obtain ⟨cs, e, _⟩ := hval
    exact ⟨cs, e⟩
  obtain ⟨cs, rfl⟩ := hv
  have h2 : cs.toList = u.cells := hu
  unfold Wd.val
  rw [← h2]
end

/-- What an upto row asks behind the call, where nothing was written. -/
theorem bulk_le {H : Type} {ds gs : List (DataW H)} (hb : Rows.uptoBulkAll (ds ++ gs) ≤ 1048576) {d : DataW H} (h : d ∈ ds) : Rows.uptoBulk d ≤ 1048576 := Nat.le_trans (bulk_part (List.mem_append_left _ h)) hb
end Go.Proofs.Ytikigppfnhilhaa
