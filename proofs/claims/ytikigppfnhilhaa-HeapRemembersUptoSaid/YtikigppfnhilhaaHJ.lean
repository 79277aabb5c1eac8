/- Ranges over maps, whatever the keys: which keys have come. -/
import Derived.Test.YtikigppfnhilhaaHE
import Derived.Maps.RangeWalk
namespace Go.Proofs.Ytikigppfnhilhaa
open Go.RowKit Go.Instr
open Go.ChangeMaps (setBlock)
set_option linter.unusedVariables false
set_option linter.unusedSimpArgs false

/-- An iterator under way: the keys in 'done' have come. -/
structure Iter (w : World) (mv : Value) (r : Nat) (es : Array MapEntry) (ck : Nat) (done : List Value) : Prop where
  map : MapV w mv es ck
  keys : (es.toList.map (·.key)).Nodup
  borns : (es.toList.map (·.born)).Nodup
  nd : done.Nodup
  it : ∃ m since seen c0, w.heap[r]? = some (.mapIter m since seen c0) ∧ mv = .map m ∧ since ≤ c0 ∧ since ≤ ck ∧ (∀ x ∈ es.toList, x.born < since) ∧
    ∃ D : List MapEntry, D.map (·.key) = done ∧ seen.toList = D.map (·.born) ∧ (D.map (·.born)).Nodup ∧ ∀ e ∈ D, e ∈ es.toList
def itLeft (w : World) (r : Nat) : Nat := match w.heap[r]? with
  | some (.mapIter (some m) _ seen _) => (match w.heap[m]? with | some (.map es _) => es.size - seen.size | _ => 0)
  | _ => 0
theorem MapV.keep {w w' : World} {v : Value} {es : Array MapEntry} {ck : Nat} (h : MapV w v es ck) (hk : ∀ m, v = .map (some m) → w'.heap[m]? = w.heap[m]?) : MapV w' v es ck := by
  rcases h with h | ⟨m, h1, h2⟩
  · exact .inl h
  · exact .inr ⟨m, h1, (hk m h1).trans h2⟩
theorem Iter.keep {w w' : World} {mv : Value} {r : Nat} {es : Array MapEntry} {ck : Nat} {done : List Value} (h : Iter w mv r es ck done)
    (hr : w'.heap[r]? = w.heap[r]?) (hk : ∀ m, mv = .map (some m) → w'.heap[m]? = w.heap[m]?) : Iter w' mv r es ck done ∧ itLeft w' r = itLeft w r := by
  refine ⟨⟨h.map.keep hk, h.keys, h.borns, h.nd, ?_⟩, ?_⟩
  · obtain ⟨m, since, seen, c0, h1, h2⟩ := h.it
    exact ⟨m, since, seen, c0, hr.trans h1, h2⟩
  · obtain ⟨m, since, seen, c0, h1, h2, -⟩ := h.it
    unfold itLeft
    rw [hr, h1]
    cases m with
    | none => rfl
    | some m => simp only []; rw [hk m h2]
theorem inj_of_nodup {α β : Type} {l : List α} {f : α → β} (h : (l.map f).Nodup) {a b : α} (ha : a ∈ l) (hb : b ∈ l) (e : f a = f b) : a = b := by
  induction l with
  | nil => cases ha
  | cons c l ih =>
    obtain ⟨h1, h2⟩ := List.nodup_cons.1 h
    rcases List.mem_cons.1 ha with ea | ha <;> rcases List.mem_cons.1 hb with eb | hb
    · rw [ea, eb]
    · exact (h1 (by rw [← ea, e]; exact List.mem_map_of_mem hb)).elim
    · exact (h1 (by rw [← eb, ← e]; exact List.mem_map_of_mem ha)).elim
    · exact ih h2 ha hb

theorem run_range_any {P : Program} {w : World} {t k e : TypeId} (ht : P.underlying t = some (.map k e)) {mv : Value} {es : Array MapEntry} {ck : Nat} (h : MapV w mv es ck) (hk : (es.toList.map (·.key)).Nodup) (hb : (es.toList.map (·.born)).Nodup) (hc : ∀ x ∈ es, x.born < ck) :
    ∃ o, (Instr.range t mv).run P w = .ok (.pointer (some ⟨w.heap.size, 0, none⟩)) (w.alloc o) ∧ Iter (w.alloc o) mv w.heap.size es ck [] := by
  rcases h with ⟨rfl, rfl⟩ | ⟨m, rfl, hm⟩
  · exact ⟨_, run_range_nilMap w t k e ht, .inl ⟨rfl, rfl⟩, hk, hb, List.nodup_nil, none, 0, #[], 0, World.alloc_heap_new _ _, rfl, Nat.le_refl _, Nat.zero_le _, by simp, [], rfl, rfl, by simp, by simp⟩
  · refine ⟨_, run_range_map w t k e m es ck ht hm, .inr ⟨m, rfl, ?_⟩, hk, hb, List.nodup_nil, some m, ck, #[], ck, World.alloc_heap_new _ _, rfl, Nat.le_refl _, Nat.le_refl _, fun x hx => hc x (by simpa using hx), [], rfl, rfl, by simp, by simp⟩
    exact (Ext.heap ((Ext.refl w).alloc _) _ (Array.getElem?_eq_some_iff.1 hm).1).trans hm

theorem nodup_len {a b : List Nat} (hn : a.Nodup) (hs : ∀ k ∈ a, k ∈ b) : a.length ≤ b.length := nodup_length hn hs

theorem Iter.next {P : Program} {w : World} {mv : Value} {r : Nat} {es : Array MapEntry} {ck : Nat} {done : List Value} (h : Iter w mv r es ck done) (ty : TypeId) :
    ((∀ e ∈ es, e.key ∈ done) ∧ (Instr.next (.pointer (some ⟨r, 0, none⟩)) false ty).run P w = .ok (.tuple #[.bool false]) w) ∨
    ∃ e w', e ∈ es ∧ e.key ∉ done ∧ (Instr.next (.pointer (some ⟨r, 0, none⟩)) false ty).run P w = .ok (.tuple #[.bool true, e.key, e.val]) w' ∧ Iter w' mv r es ck (done ++ [e.key]) ∧ Keeps (· = r) w w' ∧ itLeft w' r < itLeft w r ∧
      (Instr.entry (.pointer (some ⟨r, 0, none⟩))).run P w' = .ok (.tuple #[e.key, e.val]) w' := by
  obtain ⟨m, since, seen, c0, h1, h2, h3, h3', h4, D, h5, h6, h7, h8⟩ := h.it
  rcases h.map with ⟨hm, he⟩ | ⟨m', hm, hb⟩
  · left
    subst he
    refine ⟨by simp, ?_⟩
    have : m = none := by rw [hm] at h2; injection h2 with h2; exact h2.symm
    subst this
    simp only [Instr.next, getObj, Sem.run_bind, Sem.run, h1, Result.andThen]
    rfl
  · have : m = some m' := by rw [hm] at h2; injection h2 with h2; exact h2.symm
    subst this
    rcases run_next_at (P := P) w ty r m' since c0 seen es ck h1 hb h4 h3 with ⟨h0, hrun⟩ | ⟨e, heL, w1, hw1, hrun⟩
    · left
      refine ⟨fun e he => ?_, hrun⟩
      have hl : leftOf es seen = #[] := Array.eq_empty_of_size_eq_zero h0
      have hs : seen.contains e.born = true := by
        cases hc : seen.contains e.born with
        | true => rfl
        | false =>
          have : e ∈ leftOf es seen := by unfold leftOf; rw [Array.mem_filter]; exact ⟨he, by rw [hc]; rfl⟩
          rw [hl] at this; simp at this
      have hs' : e.born ∈ D.map (·.born) := by rw [← h6]; simpa using hs
      obtain ⟨d, hd, hde⟩ := List.mem_map.1 hs'
      have : d = e := inj_of_nodup h.borns (h8 d hd) (by simpa using he) hde
      subst this
      rw [← h5]; exact List.mem_map_of_mem hd
    · right
      have hel : e ∈ leftOf es seen := by simpa using heL
      unfold leftOf at hel
      rw [Array.mem_filter] at hel
      obtain ⟨he, hns⟩ := hel
      have hnb : e.born ∉ D.map (·.born) := by rw [← h6]; simpa using hns
      have hrm : r ≠ m' := by rintro rfl; rw [h1] at hb; cases hb
      have hh1 : w1.heap = w.heap := by rcases hw1 with rfl | rfl <;> rfl
      have hlt : r < w1.heap.size := by rw [hh1]; exact (Array.getElem?_eq_some_iff.1 h1).1
      have hr' : (setBlock w1 r (.mapIter (some m') since (seen.push e.born) ck)).heap[r]? = some (.mapIter (some m') since (seen.push e.born) ck) := by
        simp only [setBlock]; rw [Array.getElem?_setIfInBounds_self_of_lt hlt]
      have hm' : (setBlock w1 r (.mapIter (some m') since (seen.push e.born) ck)).heap[m']? = some (.map es ck) := by
        simp only [setBlock]; rw [Array.getElem?_setIfInBounds_ne hrm, hh1]; exact hb
      have hnk : e.key ∉ done := fun hk => by
        rw [← h5] at hk
        obtain ⟨d, hd, hde⟩ := List.mem_map.1 hk
        have : d = e := inj_of_nodup h.keys (h8 d hd) (by simpa using he) hde
        subst this; exact hnb (List.mem_map_of_mem hd)
      have hND : ((D ++ [e]).map (·.born)).Nodup := by
        rw [List.map_append, List.nodup_append]
        refine ⟨h7, by simp, ?_⟩
        intro a ha b hb e'
        simp at hb; subst hb; subst e'; exact hnb ha
      refine ⟨e, _, he, hnk, hrun, ⟨.inr ⟨m', hm, hm'⟩, h.keys, h.borns, ?_, some m', since, seen.push e.born, ck, hr', hm, h3', h3', h4, D ++ [e], by simp [h5], by simp [h6], hND, ?_⟩, ?_, ?_, ?_⟩
      · rw [List.nodup_append]
        refine ⟨h.nd, by simp, ?_⟩
        intro a ha b hb e'
        simp at hb; subst hb; subst e'; exact hnk ha
      · intro d hd
        rcases List.mem_append.1 hd with hd | hd
        · exact h8 d hd
        · simp at hd; subst hd; simpa using he
      · rcases hw1 with rfl | rfl
        · exact Keeps.putObj (S := (· = r)) (Keeps.refl _ w1) (.inl rfl) _
        · exact Keeps.putObj (S := (· = r)) (Keeps.refl _ w).drew (.inl rfl) _
      · unfold itLeft
        rw [hr', h1]
        simp only []
        rw [hm', hb]
        simp only [Array.size_push]
        have := nodup_len hND (b := es.toList.map (·.born)) fun k hk => by
          obtain ⟨d, hd, rfl⟩ := List.mem_map.1 hk
          rcases List.mem_append.1 hd with hd | hd
          · exact List.mem_map_of_mem (h8 d hd)
          · simp at hd; subst hd; exact List.mem_map_of_mem (by simpa using he)
        have hs : seen.size = D.length := by rw [← Array.length_toList, h6, List.length_map]
        simp at this
        omega
      · exact run_entry_at _ r m' since seen es ck e hr' hm' (by simpa using he) h.borns

theorem wpList_next_it {P : Program} {w : World} {ops : Array Oper} {rest : List Oper} {o : Oper} {a : Act} {Q : Exit → Act → World → Prop} (hg : o.guard = none) (it : Operand) (hop : o.op = Op.next it false)
    {mv : Value} {r : Nat} {es : Array MapEntry} {ck : Nat} {done : List Value} (hit : a.eval it = .pointer (some ⟨r, 0, none⟩)) (h : Iter w mv r es ck done)
    (hDone : (∀ e ∈ es, e.key ∈ done) → wpList P ops Q rest (a.put o.dst (.tuple #[.bool false])) w)
    (hMore : ∀ e w', e ∈ es → e.key ∉ done → Iter w' mv r es ck (done ++ [e.key]) → Keeps (· = r) w w' → itLeft w' r < itLeft w r →
      (Instr.entry (.pointer (some ⟨r, 0, none⟩))).run P w' = .ok (.tuple #[e.key, e.val]) w' → wpList P ops Q rest (a.put o.dst (.tuple #[.bool true, e.key, e.val])) w') :
    wpList P ops Q (o :: rest) a w := by
  refine wpList_plain hg fun K' hK' => ?_
  unfold Oper.wp
  rcases h.next (P := P) o.type with ⟨hl, hrun⟩ | ⟨e, w', he, hn, hrun, h1, h2, h3, h4⟩
  · simp [execOp, hop, hit, hrun, Result.andThen]
    exact hK' _ _ (hDone hl)
  · simp [execOp, hop, hit, hrun, Result.andThen]
    exact hK' _ _ (hMore e w' he hn h1 h2 h3 h4)
theorem wpList_range_it {P : Program} {w : World} {ops : Array Oper} {rest : List Oper} {o : Oper} {a : Act} {Q : Exit → Act → World → Prop} (hg : o.guard = none) (m : Operand) (t : TypeId) (hop : o.op = Op.range t m) (k e : TypeId) (ht : P.underlying t = some (.map k e))
    {mv : Value} {es : Array MapEntry} {ck : Nat} (hm : a.eval m = mv) (h : MapV w mv es ck) (hk : (es.toList.map (·.key)).Nodup) (hb : (es.toList.map (·.born)).Nodup) (hc : ∀ x ∈ es, x.born < ck)
    (hK : ∀ w', Iter w' mv w.heap.size es ck [] → Ext w w' → w'.heap.size = w.heap.size + 1 → wpList P ops Q rest (a.put o.dst (.pointer (some ⟨w.heap.size, 0, none⟩))) w') :
    wpList P ops Q (o :: rest) a w := by
  refine wpList_plain hg fun K' hK' => ?_
  obtain ⟨o', hrun, h1⟩ := run_range_any (P := P) ht h hk hb hc
  unfold Oper.wp
  simp [execOp, hop, hm, hrun, Result.andThen]
  exact hK' _ _ (hK _ h1 ((Ext.refl w).alloc _) (by simp))
end Go.Proofs.Ytikigppfnhilhaa
