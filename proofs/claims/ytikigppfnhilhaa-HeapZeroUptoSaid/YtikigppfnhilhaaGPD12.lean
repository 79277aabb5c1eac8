/- Ranges over maps, whatever the keys: which keys have come. A range over an iterator that is known to yield just the elements of a list, in order: the body may know which element comes. -/
import Derived.Test.YtikigppfnhilhaaGPD11
import Derived.Maps.RangeWalk
import Derived.Test.YtikigppfnhilhaaGPD4
import Derived.RangeFuncWrites
import Derived.RangeFuncBound
import Derived.RangeFuncCalls
import Derived.RangeFuncLeaves
/- Ranges over maps, whatever the keys: which keys have come. -/
namespace Go.Proofs.Ytikigppfnhilhaa
open Go.RowKit Go.Instr
open Go.ChangeMaps (setBlock)
set_option linter.unusedVariables false
set_option linter.unusedSimpArgs false

/-- An iterator under way: the keys in 'done' have come. -/
structure Iter (w : World) (mv : Value) (r : Nat) (es : Array MapEntry) (ck : Nat) (done : List Value) : Prop where
  map : MapV w mv es ck
  keys : (es.toList.map (·.key)).Nodup
  borns : (es.toList.map (·.born)).Nodup
  nd : done.Nodup
  it : ∃ m since seen c0, w.heap[r]? = some (.mapIter m since seen c0) ∧ mv = .map m ∧ since ≤ c0 ∧ since ≤ ck ∧ (∀ x ∈ es.toList, x.born < since) ∧
    ∃ D : List MapEntry, D.map (·.key) = done ∧ seen.toList = D.map (·.born) ∧ (D.map (·.born)).Nodup ∧ ∀ e ∈ D, e ∈ es.toList
def itLeft (w : World) (r : Nat) : Nat := match w.heap[r]? with
  | some (.mapIter (some m) _ seen _) => (match w.heap[m]? with | some (.map es _) => es.size - seen.size | _ => 0)
  | _ => 0
theorem MapV.keep {w w' : World} {v : Value} {es : Array MapEntry} {ck : Nat} (h : MapV w v es ck) (hk : ∀ m, v = .map (some m) → w'.heap[m]? = w.heap[m]?) : MapV w' v es ck := by
  rcases h with h | ⟨m, h1, h2⟩
  · exact .inl h
  · exact .inr ⟨m, h1, (hk m h1).trans h2⟩
theorem Iter.keep {w w' : World} {mv : Value} {r : Nat} {es : Array MapEntry} {ck : Nat} {done : List Value} (h : Iter w mv r es ck done)
    (hr : w'.heap[r]? = w.heap[r]?) (hk : ∀ m, mv = .map (some m) → w'.heap[m]? = w.heap[m]?) : Iter w' mv r es ck done ∧ itLeft w' r = itLeft w r := by
  refine ⟨⟨h.map.keep hk, h.keys, h.borns, h.nd, ?_⟩, ?_⟩
  · obtain ⟨m, since, seen, c0, h1, h2⟩ := h.it
    exact ⟨m, since, seen, c0, hr.trans h1, h2⟩
  · obtain ⟨m, since, seen, c0, h1, h2, -⟩ := h.it
    unfold itLeft
    rw [hr, h1]
    cases m with
    | none => rfl
    | some m => simp only []; rw [hk m h2]
theorem inj_of_nodup {α β : Type} {l : List α} {f : α → β} (h : (l.map f).Nodup) {a b : α} (ha : a ∈ l) (hb : b ∈ l) (e : f a = f b) : a = b := by
  induction l with
  | nil => cases ha
  | cons c l ih =>
    obtain ⟨h1, h2⟩ := List.nodup_cons.1 h
    rcases List.mem_cons.1 ha with ea | ha <;> rcases List.mem_cons.1 hb with eb | hb
    · rw [ea, eb]
    · exact (h1 (by rw [← ea, e]; exact List.mem_map_of_mem hb)).elim
    · exact (h1 (by rw [← eb, ← e]; exact List.mem_map_of_mem ha)).elim
    · exact ih h2 ha hb

theorem run_range_any {P : Program} {w : World} {t k e : TypeId} (ht : P.underlying t = some (.map k e)) {mv : Value} {es : Array MapEntry} {ck : Nat} (h : MapV w mv es ck) (hk : (es.toList.map (·.key)).Nodup) (hb : (es.toList.map (·.born)).Nodup) (hc : ∀ x ∈ es, x.born < ck) :
    ∃ o, (Instr.range t mv).run P w = .ok (.pointer (some ⟨w.heap.size, 0, none⟩)) (w.alloc o) ∧ Iter (w.alloc o) mv w.heap.size es ck [] := by
  rcases h with ⟨rfl, rfl⟩ | ⟨m, rfl, hm⟩
  · exact ⟨_, run_range_nilMap w t k e ht, .inl ⟨rfl, rfl⟩, hk, hb, List.nodup_nil, none, 0, #[], 0, World.alloc_heap_new _ _, rfl, Nat.le_refl _, Nat.zero_le _, by simp, [], rfl, rfl, by simp, by simp⟩
  · refine ⟨_, run_range_map w t k e m es ck ht hm, .inr ⟨m, rfl, ?_⟩, hk, hb, List.nodup_nil, some m, ck, #[], ck, World.alloc_heap_new _ _, rfl, Nat.le_refl _, Nat.le_refl _, fun x hx => hc x (by simpa using hx), [], rfl, rfl, by simp, by simp⟩
    exact (Ext.heap ((Ext.refl w).alloc _) _ (Array.getElem?_eq_some_iff.1 hm).1).trans hm

theorem nodup_len {a b : List Nat} (hn : a.Nodup) (hs : ∀ k ∈ a, k ∈ b) : a.length ≤ b.length := nodup_length hn hs

theorem Iter.next {P : Program} {w : World} {mv : Value} {r : Nat} {es : Array MapEntry} {ck : Nat} {done : List Value} (h : Iter w mv r es ck done) (ty : TypeId) :
    ((∀ e ∈ es, e.key ∈ done) ∧ (Instr.next (.pointer (some ⟨r, 0, none⟩)) false ty).run P w = .ok (.tuple #[.bool false]) w) ∨
    ∃ e w', e ∈ es ∧ e.key ∉ done ∧ (Instr.next (.pointer (some ⟨r, 0, none⟩)) false ty).run P w = .ok (.tuple #[.bool true, e.key, e.val]) w' ∧ Iter w' mv r es ck (done ++ [e.key]) ∧ Keeps (· = r) w w' ∧ itLeft w' r < itLeft w r ∧
      (Instr.entry (.pointer (some ⟨r, 0, none⟩))).run P w' = .ok (.tuple #[e.key, e.val]) w' := by
  obtain ⟨m, since, seen, c0, h1, h2, h3, h3', h4, D, h5, h6, h7, h8⟩ := h.it
  rcases h.map with ⟨hm, he⟩ | ⟨m', hm, hb⟩
  · left
    subst he
    refine ⟨by simp, ?_⟩
    have : m = none := by rw [hm] at h2; injection h2 with h2; exact h2.symm
    subst this
    simp only [Instr.next, getObj, Sem.run_bind, Sem.run, h1, Result.andThen]
    rfl
  · have : m = some m' := by rw [hm] at h2; injection h2 with h2; exact h2.symm
    subst this
    rcases run_next_at (P := P) w ty r m' since c0 seen es ck h1 hb h4 h3 with ⟨h0, hrun⟩ | ⟨e, heL, w1, hw1, hrun⟩
    · left
      refine ⟨fun e he => ?_, hrun⟩
      have hl : leftOf es seen = #[] := Array.eq_empty_of_size_eq_zero h0
      have hs : seen.contains e.born = true := by
        cases hc : seen.contains e.born with
        | true => rfl
        | false =>
          have : e ∈ leftOf es seen := by unfold leftOf; rw [Array.mem_filter]; exact ⟨he, by rw [hc]; rfl⟩
          rw [hl] at this; simp at this
      have hs' : e.born ∈ D.map (·.born) := by rw [← h6]; simpa using hs
      obtain ⟨d, hd, hde⟩ := List.mem_map.1 hs'
      have : d = e := inj_of_nodup h.borns (h8 d hd) (by simpa using he) hde
      subst this
      rw [← h5]; exact List.mem_map_of_mem hd
    · right
      have hel : e ∈ leftOf es seen := by simpa using heL
      unfold leftOf at hel
      rw [Array.mem_filter] at hel
      obtain ⟨he, hns⟩ := hel
      have hnb : e.born ∉ D.map (·.born) := by rw [← h6]; simpa using hns
      have hrm : r ≠ m' := by rintro rfl; rw [h1] at hb; cases hb
      have hh1 : w1.heap = w.heap := by rcases hw1 with rfl | rfl <;> rfl
      have hlt : r < w1.heap.size := by rw [hh1]; exact (Array.getElem?_eq_some_iff.1 h1).1
      have hr' : (setBlock w1 r (.mapIter (some m') since (seen.push e.born) ck)).heap[r]? = some (.mapIter (some m') since (seen.push e.born) ck) := by
        simp only [setBlock]; rw [Array.getElem?_setIfInBounds_self_of_lt hlt]
      have hm' : (setBlock w1 r (.mapIter (some m') since (seen.push e.born) ck)).heap[m']? = some (.map es ck) := by
        simp only [setBlock]; rw [Array.getElem?_setIfInBounds_ne hrm, hh1]; exact hb
      have hnk : e.key ∉ done := fun hk => by
        rw [← h5] at hk
        obtain ⟨d, hd, hde⟩ := List.mem_map.1 hk
        have : d = e := inj_of_nodup h.keys (h8 d hd) (by simpa using he) hde
        subst this; exact hnb (List.mem_map_of_mem hd)
      have hND : ((D ++ [e]).map (·.born)).Nodup := by
        rw [List.map_append, List.nodup_append]
        refine ⟨h7, by simp, ?_⟩
        intro a ha b hb e'
        simp at hb; subst hb; subst e'; exact hnb ha
      refine ⟨e, _, he, hnk, hrun, ⟨.inr ⟨m', hm, hm'⟩, h.keys, h.borns, ?_, some m', since, seen.push e.born, ck, hr', hm, h3', h3', h4, D ++ [e], by simp [h5], by simp [h6], hND, ?_⟩, ?_, ?_, ?_⟩
      · rw [List.nodup_append]
        refine ⟨h.nd, by simp, ?_⟩
        intro a ha b hb e'
        simp at hb; subst hb; subst e'; exact hnk ha
      · intro d hd
        rcases List.mem_append.1 hd with hd | hd
        · exact h8 d hd
        · simp at hd; subst hd; simpa using he
      · rcases hw1 with rfl | rfl
        · exact Keeps.putObj (S := (· = r)) (Keeps.refl _ w1) (.inl rfl) _
        · exact Keeps.putObj (S := (· = r)) (Keeps.refl _ w).drew (.inl rfl) _
      · unfold itLeft
        rw [hr', h1]
        simp only []
        rw [hm', hb]
        simp only [Array.size_push]
        have := nodup_len hND (b := es.toList.map (·.born)) fun k hk => by
          obtain ⟨d, hd, rfl⟩ := List.mem_map.1 hk
          rcases List.mem_append.1 hd with hd | hd
          · exact List.mem_map_of_mem (h8 d hd)
          · simp at hd; subst hd; exact List.mem_map_of_mem (by simpa using he)
        have hs : seen.size = D.length := by rw [← Array.length_toList, h6, List.length_map]
        simp at this
        omega
      · exact run_entry_at _ r m' since seen es ck e hr' hm' (by simpa using he) h.borns

theorem wpList_next_it {P : Program} {w : World} {ops : Array Oper} {rest : List Oper} {o : Oper} {a : Act} {Q : Exit → Act → World → Prop} (hg : o.guard = none) (it : Operand) (hop : o.op = Op.next it false)
    {mv : Value} {r : Nat} {es : Array MapEntry} {ck : Nat} {done : List Value} (hit : a.eval it = .pointer (some ⟨r, 0, none⟩)) (h : Iter w mv r es ck done)
    (hDone : (∀ e ∈ es, e.key ∈ done) → wpList P ops Q rest (a.put o.dst (.tuple #[.bool false])) w)
    (hMore : ∀ e w', e ∈ es → e.key ∉ done → Iter w' mv r es ck (done ++ [e.key]) → Keeps (· = r) w w' → itLeft w' r < itLeft w r →
      (Instr.entry (.pointer (some ⟨r, 0, none⟩))).run P w' = .ok (.tuple #[e.key, e.val]) w' → wpList P ops Q rest (a.put o.dst (.tuple #[.bool true, e.key, e.val])) w') :
    wpList P ops Q (o :: rest) a w := by
  refine wpList_plain hg fun K' hK' => ?_
  unfold Oper.wp
  rcases h.next (P := P) o.type with ⟨hl, hrun⟩ | ⟨e, w', he, hn, hrun, h1, h2, h3, h4⟩
  · simp [execOp, hop, hit, hrun, Result.andThen]
    exact hK' _ _ (hDone hl)
  · simp [execOp, hop, hit, hrun, Result.andThen]
    exact hK' _ _ (hMore e w' he hn h1 h2 h3 h4)
theorem wpList_range_it {P : Program} {w : World} {ops : Array Oper} {rest : List Oper} {o : Oper} {a : Act} {Q : Exit → Act → World → Prop} (hg : o.guard = none) (m : Operand) (t : TypeId) (hop : o.op = Op.range t m) (k e : TypeId) (ht : P.underlying t = some (.map k e))
    {mv : Value} {es : Array MapEntry} {ck : Nat} (hm : a.eval m = mv) (h : MapV w mv es ck) (hk : (es.toList.map (·.key)).Nodup) (hb : (es.toList.map (·.born)).Nodup) (hc : ∀ x ∈ es, x.born < ck)
    (hK : ∀ w', Iter w' mv w.heap.size es ck [] → Ext w w' → w'.heap.size = w.heap.size + 1 → wpList P ops Q rest (a.put o.dst (.pointer (some ⟨w.heap.size, 0, none⟩))) w') :
    wpList P ops Q (o :: rest) a w := by
  refine wpList_plain hg fun K' hK' => ?_
  obtain ⟨o', hrun, h1⟩ := run_range_any (P := P) ht h hk hb hc
  unfold Oper.wp
  simp [execOp, hop, hm, hrun, Result.andThen]
  exact hK' _ _ (hK _ h1 ((Ext.refl w).alloc _) (by simp))
end Go.Proofs.Ytikigppfnhilhaa
/- A range over an iterator that is known to yield just the elements of a list, in order: the body may know which element comes. -/
namespace Go.Proofs.Ytikigppfnhilhaa
open Go.RowKit Go.Instr
set_option linter.unusedVariables false
set_option linter.unusedSimpArgs false

/-- The iterator yields just the list L, in order, as long as it is let. -/
def SeqIs {α : Type} (n : Nat) (P : Program) (g : Nat) (lb : Array Value) (encs : α → Array Value) (Kp : World → World → Prop) (L : List α) (w : World) : Prop :=
  ∀ (l : Nat) (J Jx : Nat → World → Prop) (W : World), Below w.heap.size w W → AbidesFrom W.heap.size J → AbidesFrom W.heap.size Jx →
    (∀ k y W1, J k W1 → L[k]? = some y → YieldAt (WF none) (n - 1) P l (encs y) W1 fun e W' => (e = .returned (.bool true) ∧ J (k + 1) W' ∧ Kp W1 W') ∨ (e = .returned (.bool false) ∧ Jx (k + 1) W')) →
    J 0 W → CallsIn (WF none) n P g (#[.func (.yield l) #[] #[]] ++ lb) W fun e W' => (∃ v, e = .returned v) ∧ (J L.length W' ∨ ∃ k, k ≤ L.length ∧ Jx k W')

def ownPostN (B : Nat) (Kp : World → World → Prop) (I : Nat → World → Prop) (Ix : Code → Nat → World → Prop) (k : Nat) (W : World) : Exit → Act → World → Prop
  | .normal, _, W' => KeepsFrom B W W' ∧ Kp W W' ∧ I k W'
  | .ret, _, W' => KeepsFrom B W W' ∧ Ix .ret k W'
  | .exit id, _, W' => KeepsFrom B W W' ∧ Ix (.exit id) k W'
  | .goto t, _, W' => KeepsFrom B W W' ∧ Ix (.goto t) k W'
  | .panic _, _, _ => False
  | .outgrown, _, _ => False

theorem rangeFunc_nth {α : Type} {n : Nat} {P : Program} {g : Operand} {ps : Array Tmp} {assign body : Code} {Q : Exit → Act → World → Prop} {a : Act} {w : World}
    {gf : Nat} {lb : Array Value} (hg : a.eval g = .func (.func gf) #[] lb) (eg : ∀ args w, (callFunc gf args).run P w = .ok (.enter gf args) w)
    {encs : α → Array Value} {Kp : World → World → Prop} {L : List α} (hseq : SeqIs (n - 1) P gf lb encs Kp L w)
    (hKt : ∀ {A B C : World}, Kp A B → Kp B C → Kp A C) (hKb : ∀ (W : World) (l : Nat) (o o' : Obj), w.heap.size ≤ l → W.heap[l]? = some o → o.isCells = false → o.isWalk = false → Kp W (W.putObj l o')) (hps : ∀ x, (encs x).size = ps.size)
    (I : Nat → World → Prop) (Ix : Code → Nat → World → Prop) (hI : OwnFrom w.heap.size I) (hIx : ∀ c, OwnFrom w.heap.size (Ix c)) (h0 : I 0 w) (a₁ : α → Act)
    (hassign : ∀ (l : Nat) (x : α) (W : World) (K : Act → World → Prop), K (a₁ x) W →
      assign.wpIn (WF (some l)) (n - 1 - 1) P (Exit.then K (fun _ _ _ => False)) { tmps := (ps.zip (encs x)).foldl (fun t (p, v) => t.setIfInBounds p v) a.tmps, defers := [] } W)
    (hbody : ∀ (l k : Nat) (x : α) (W : World), I k W → L[k]? = some x → body.wpIn (WF (some l)) (n - 1 - 1) P (ownPostN w.heap.size Kp I Ix (k + 1) W) (a₁ x) W)
    (hdone : ∀ (D : Nat) (W : World), w.heap.size ≤ D → I L.length W → W.heap[D]? = some (.deferred (some [])) → Q .normal { a with defers := { target := .collected D, args := #[] } :: a.defers } W)
    (hstop : ∀ (D : Nat) (c : Code) (k : Nat) (W : World), w.heap.size ≤ D → k ≤ L.length → Ix c k W → W.heap[D]? = some (.deferred (some [])) → c.wpIn (WF none) n P Q { a with defers := { target := .collected D, args := #[] } :: a.defers } W) :
    (Code.rangeFunc g ps assign body).wpIn (WF none) n P Q a w := by
  refine wpIn_rangeFunc ?_
  intro fn hfn
  rw [WF_round]
  obtain ⟨rec, hrec⟩ : ∃ rec : LoopState → Option Code → Loop, rec = fun st pe => { state := st, pending := pe, fn, tmps := a.tmps, params := ps, assign, body, defers := w.heap.size } := ⟨_, rfl⟩
  obtain ⟨W1, hW1⟩ : ∃ W1, (w.alloc (.deferred (some []))).alloc (.loop (rec .ready none)) = W1 := ⟨_, rfl⟩
  have hL1 : W1.heap[w.heap.size + 1]? = some (.loop (rec .ready none)) := by
    rw [← hW1]; have := World.alloc_heap_new (w.alloc (.deferred (some []))) (.loop (rec .ready none)); rwa [World.size_alloc] at this
  have hK1 : W1.heap[w.heap.size]? = some (.deferred (some [])) := by
    rw [← hW1]; exact (Below.heap_alloc _ _ _ (by simp)).trans (World.alloc_heap_new w _)
  have hI1 : I 0 W1 := by rw [← hW1]; exact hI.alloc _ (hI.alloc _ h0)
  have hb1 : Below w.heap.size w W1 := by
    rw [← hW1]; exact ((Below.refl _ w).alloc (Nat.le_refl _) _).alloc (by simp) _
  refine ⟨w.heap.size + 1, [{ target := .collected w.heap.size, args := #[] }], W1, { target := .fn (.func gf) lb, args := #[.func (.yield (w.heap.size + 1)) #[] #[]] }, W1, gf,
    #[.func (.yield (w.heap.size + 1)) #[] #[]] ++ lb, W1, ?_, ?_, ?_, ?_, fun h => (by cases h), ?_⟩
  · rw [← hW1, hrec]; exact run_enterLoop_outer _ _ _ _ _
  · simp only [resolve, hg]
    simp [go_sem]
  · intro f' hf'; trivial
  · simp [invoke, go_sem, eg]
  · have hnw : ∀ {A B : World} {row : Option Nat}, (∀ r, row = some r → W1.heap.size ≤ r ∧ ∃ o : Obj, A.heap[r]? = some o ∧ o.isWalk = true) → (∀ r, row = some r → w.heap.size ≤ r ∧ ∃ o : Obj, A.heap[r]? = some o ∧ o.isCells = false) :=
      fun hr r e => by obtain ⟨hB, o, ho, hw⟩ := hr r e; exact ⟨by rw [← hW1] at hB; simp at hB; omega, o, ho, Obj.not_cells_of_walk hw⟩
    refine (hseq (w.heap.size + 1)
      (fun k W => I k W ∧ W.heap[w.heap.size + 1]? = some (.loop (rec .ready none)) ∧ W.heap[w.heap.size]? = some (.deferred (some [])))
      (fun k W => ∃ c, Ix c k W ∧ W.heap[w.heap.size + 1]? = some (.loop (rec .done (some c))) ∧ W.heap[w.heap.size]? = some (.deferred (some [])))
      W1 hb1
      (fun s A B row hs hg' hr => ⟨hI s A B row hs.1 hg' (hnw (B := B) hr), (grownBy_keeps hg' (fun r e => (hr r e).2) hs.2.1 rfl).trans hs.2.1, (grownBy_keeps hg' (fun r e => (hr r e).2) hs.2.2 rfl).trans hs.2.2⟩)
      (fun s A B row hs hg' hr => by
        obtain ⟨c, hc, hl, hk⟩ := hs
        exact ⟨c, hIx c s A B row hc hg' (hnw (B := B) hr), (grownBy_keeps hg' (fun r e => (hr r e).2) hl rfl).trans hl, (grownBy_keeps hg' (fun r e => (hr r e).2) hk rfl).trans hk⟩)
      ?_ ⟨hI1, hL1, hK1⟩).mono ?_
    · rintro k x W ⟨hi, hl, hk⟩ hx
      have hlt : w.heap.size + 1 < W.heap.size := (Array.getElem?_eq_some_iff.1 hl).1
      have hy := run_yield (P := P) (args := encs x) hl (by rw [hrec]; exact hps x)
      rw [hrec] at hy
      refine ⟨fn, _, assign, body, hy, roundIn_of_wpIn hfn (hassign _ x W _ ⟨_, run_beginRound hl (by rw [hrec]), ?_⟩)⟩
      have hl2 : (W.putObj (w.heap.size + 1) (.loop { rec .ready none with state := .busy })).heap[w.heap.size + 1]? = some (.loop { rec .ready none with state := .busy }) := World.putObj_heap_same hlt
      have hk2 : (W.putObj (w.heap.size + 1) (.loop { rec .ready none with state := .busy })).heap[w.heap.size]? = some (.deferred (some [])) := (World.putObj_heap_other (by omega)).trans hk
      have hw2 : Kp W (W.putObj (w.heap.size + 1) (.loop { rec .ready none with state := .busy })) := hKb _ _ _ _ (by omega) hl rfl rfl
      refine wpIn_mono (hbody _ k x _ (hI.putObj _ hi (by omega) hl rfl) hx) ?_
      have fin : ∀ (jump : Option Code) (W3 : World), KeepsFrom w.heap.size (W.putObj (w.heap.size + 1) (.loop { rec .ready none with state := .busy })) W3 →
          (Instr.endRound (w.heap.size + 1) jump).run P W3 = .ok (.bool jump.isNone) (W3.putObj (w.heap.size + 1) (.loop (rec (if jump.isNone then .ready else .done) jump))) ∧
          W3.heap[w.heap.size + 1]? = some (.loop { rec .ready none with state := .busy }) ∧
          (W3.putObj (w.heap.size + 1) (.loop (rec (if jump.isNone then .ready else .done) jump))).heap[w.heap.size + 1]? = some (.loop (rec (if jump.isNone then .ready else .done) jump)) ∧
          (W3.putObj (w.heap.size + 1) (.loop (rec (if jump.isNone then .ready else .done) jump))).heap[w.heap.size]? = some (.deferred (some [])) := fun jump W3 hk3 => by
        have hl3 := hk3.same _ _ (by omega) hl2 rfl
        have := run_endRound (P := P) jump hl3
        rw [hrec] at this ⊢
        exact ⟨this, by rw [hrec] at hl3; exact hl3, World.putObj_heap_same (Array.getElem?_eq_some_iff.1 hl3).1, (World.putObj_heap_other (by omega)).trans (hk3.same _ _ (Nat.le_refl _) hk2 rfl)⟩
      rintro e a3 W3 hp
      cases e with
      | normal =>
        obtain ⟨hk3, hkp3, hi3⟩ := hp
        obtain ⟨hr, hl3, hl4, hk4⟩ := fin none W3 hk3
        exact ⟨_, _, hr, .inl ⟨rfl, ⟨hI.putObj _ hi3 (by omega) hl3 rfl, hl4, hk4⟩, hKt (hKt hw2 hkp3) (hKb _ _ _ _ (by omega) hl3 rfl rfl)⟩⟩
      | ret =>
        obtain ⟨hk3, hi3⟩ := hp
        obtain ⟨hr, hl3, hl4, hk4⟩ := fin (some .ret) W3 hk3
        exact ⟨_, _, hr, .inr ⟨rfl, .ret, (hIx _).putObj _ hi3 (by omega) hl3 rfl, hl4, hk4⟩⟩
      | exit id =>
        obtain ⟨hk3, hi3⟩ := hp
        obtain ⟨hr, hl3, hl4, hk4⟩ := fin (some (.exit id)) W3 hk3
        exact ⟨_, _, hr, .inr ⟨rfl, .exit id, (hIx _).putObj _ hi3 (by omega) hl3 rfl, hl4, hk4⟩⟩
      | goto t =>
        obtain ⟨hk3, hi3⟩ := hp
        obtain ⟨hr, hl3, hl4, hk4⟩ := fin (some (.goto t)) W3 hk3
        exact ⟨_, _, hr, .inr ⟨rfl, .goto t, (hIx _).putObj _ hi3 (by omega) hl3 rfl, hl4, hk4⟩⟩
      | panic ch => exact hp.elim
      | outgrown => exact hp.elim
    · rintro e W2 ⟨⟨v, rfl⟩, (⟨hi, hl, hk⟩ | ⟨k, hle, c, hi, hl, hk⟩)⟩
      · exact ⟨none, _, by have := run_endLoop (P := P) hl (by rw [hrec]; simp); rw [hrec] at this; exact this, hdone _ _ (Nat.le_refl _) (hI.putObj _ hi (by omega) hl rfl) ((World.putObj_heap_other (by omega)).trans hk)⟩
      · exact ⟨some c, _, by have := run_endLoop (P := P) hl (by rw [hrec]; simp); rw [hrec] at this; exact this, hstop _ c k _ (Nat.le_refl _) hle ((hIx c).putObj _ hi (by omega) hl rfl) ((World.putObj_heap_other (by omega)).trans hk)⟩
end Go.Proofs.Ytikigppfnhilhaa
