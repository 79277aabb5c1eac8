/- Words of worlds: blocks that are known, blocks that stay, maps with whole numbers as keys. The table of the operations: the checks of operands. -/
import Derived.Test.YtlaepkmnbbgbcaaGreatDoorRows
import Derived.WalkKit
import Derived.WalkSpells
import Derived.WalkLawsBesides
import Derived.Lib.Hide
import Derived.Deep.Draws
import Derived.RangeFuncOwn
import Derived.Maps.Own
/- Words of worlds: blocks that are known, blocks that stay, maps with whole numbers as keys. -/
namespace Go.Proofs.YtlaepkmnbbgbcaaGreatDoor
open Go.RowKit Go.Instr
set_option linter.unusedVariables false
set_option linter.unusedSimpArgs false

/-! ### Blocks -/
/-- The block b holds the cells c of type t, and may be written. -/
def Blk (w : World) (b : Nat) (c : Array Value) (t : TypeId) : Prop := w.heap[b]? = some (.cells c t (0, 0))

theorem Blk.cell {w : World} {b : Nat} {c : Array Value} {t : TypeId} (h : Blk w b c t) (i : Nat) : w.cell? ⟨b, i, none⟩ = c[i]? := by
  unfold Blk at h; simp [World.cell?, h]
theorem Blk.frozen {w : World} {b : Nat} {c : Array Value} {t : TypeId} (h : Blk w b c t) (i : Nat) : w.frozen? ⟨b, i, none⟩ = false := by
  unfold Blk at h; simp [World.frozen?, h]
theorem Blk.lt {w : World} {b : Nat} {c : Array Value} {t : TypeId} (h : Blk w b c t) : b < w.heap.size := (Array.getElem?_eq_some_iff.1 h).1
theorem Blk.set {w : World} {b : Nat} {c : Array Value} {t : TypeId} (h : Blk w b c t) (i : Nat) (v : Value) : Blk (w.setCell ⟨b, i, none⟩ v) b (c.setIfInBounds i v) t := by
  unfold Blk at *
  obtain ⟨hlt, he⟩ := Array.getElem?_eq_some_iff.1 h
  simp only [World.setCell]
  rw [Array.getElem?_modify, if_pos rfl, h]
  simp
theorem Blk.far {w : World} {b : Nat} {c : Array Value} {t : TypeId} (h : Blk w b c t) {a : Addr} (ha : b ≠ a.block) (v : Value) : Blk (w.setCell a v) b c t := by
  unfold Blk at *; rw [Below.heap_setCell _ _ _ _ ha]; exact h
theorem Blk.alloc {w : World} {b : Nat} {c : Array Value} {t : TypeId} (h : Blk w b c t) (o : Obj) : Blk (w.alloc o) b c t := by
  have := h.lt; unfold Blk at *; rw [Below.heap_alloc _ _ _ this]; exact h
theorem Blk.new (w : World) (c : Array Value) (t : TypeId) : Blk (w.alloc (.cells c t)) w.heap.size c t := by
  unfold Blk; exact heap_alloc_new w _
theorem Blk.drewN {w : World} {b : Nat} {c : Array Value} {t : TypeId} (h : Blk w b c t) (n : Nat) : Blk (w.drewN n) b c t := h
theorem Blk.drew {w : World} {b : Nat} {c : Array Value} {t : TypeId} (h : Blk w b c t) : Blk w.drew b c t := h
theorem Blk.ne {w : World} {b b' : Nat} {c c' : Array Value} {t t' : TypeId} (h : Blk w b c t) (h' : Blk w b' c' t') (hne : t ≠ t') : b ≠ b' := by
  rintro rfl; unfold Blk at *; rw [h] at h'; injection h' with h'; injection h' with h1 h2; exact hne h2
theorem Blk.same {w : World} {b : Nat} {c c' : Array Value} {t t' : TypeId} (h : Blk w b c t) (h' : Blk w b c' t') : c = c' := by
  unfold Blk at *; rw [h] at h'; injection h' with h'; injection h'

/-! ### What stays -/
/-- w' is w but for the blocks of S and new ones. -/
structure Keeps (S : Nat → Prop) (w w' : World) : Prop where
  os : w'.os = w.os
  tape : w'.tape = w.tape
  output : w'.output = w.output
  size : w.heap.size ≤ w'.heap.size
  block : ∀ k, k < w.heap.size → ¬ S k → w'.heap[k]? = w.heap[k]?

theorem Keeps.refl (S : Nat → Prop) (w : World) : Keeps S w w := ⟨rfl, rfl, rfl, Nat.le_refl _, fun _ _ _ => rfl⟩
theorem Keeps.trans {S : Nat → Prop} {a b c : World} (h : Keeps S a b) (k : Keeps S b c) : Keeps S a c :=
  ⟨k.os.trans h.os, k.tape.trans h.tape, k.output.trans h.output, Nat.le_trans h.size k.size,
   fun i hi hs => (k.block i (Nat.lt_of_lt_of_le hi h.size) hs).trans (h.block i hi hs)⟩
/-- The second step may write what the first one has made. -/
theorem Keeps.trans' {S S' : Nat → Prop} {a b c : World} (h : Keeps S a b) (k : Keeps S' b c) (hs : ∀ i, i < a.heap.size → S' i → S i) : Keeps S a c :=
  ⟨k.os.trans h.os, k.tape.trans h.tape, k.output.trans h.output, Nat.le_trans h.size k.size,
   fun i hi hn => (k.block i (Nat.lt_of_lt_of_le hi h.size) (fun x => hn (hs i hi x))).trans (h.block i hi hn)⟩
theorem Keeps.mono {S S' : Nat → Prop} {a b : World} (h : Keeps S a b) (hs : ∀ i, i < a.heap.size → S i → S' i) : Keeps S' a b :=
  ⟨h.os, h.tape, h.output, h.size, fun i hi hn => h.block i hi (fun x => hn (hs i hi x))⟩
theorem Keeps.drewN {S : Nat → Prop} {a b : World} (h : Keeps S a b) (n : Nat) : Keeps S a (b.drewN n) := ⟨h.os, h.tape, h.output, h.size, h.block⟩
theorem Keeps.drew {S : Nat → Prop} {a b : World} (h : Keeps S a b) : Keeps S a b.drew := ⟨h.os, h.tape, h.output, h.size, h.block⟩
theorem Keeps.undrew {S : Nat → Prop} {a b : World} {n : Nat} (h : Keeps S (a.drewN n) b) : Keeps S a b := ⟨h.os, h.tape, h.output, h.size, h.block⟩
theorem Keeps.alloc {S : Nat → Prop} {a b : World} (h : Keeps S a b) (o : Obj) : Keeps S a (b.alloc o) :=
  h.trans ⟨rfl, rfl, rfl, by simp, fun k hk _ => Below.heap_alloc _ _ _ hk⟩
theorem Keeps.setCell {S : Nat → Prop} {a b : World} (h : Keeps S a b) {p : Addr} (hp : S p.block ∨ a.heap.size ≤ p.block) (v : Value) : Keeps S a (b.setCell p v) :=
  ⟨h.os, h.tape, h.output, by simpa using h.size, fun k hk hn => (Below.heap_setCell _ _ _ _ (by rintro rfl; rcases hp with hp | hp; exact hn hp; omega)).trans (h.block k hk hn)⟩
theorem Keeps.putObj {S : Nat → Prop} {a b : World} (h : Keeps S a b) {r : Nat} (hp : S r ∨ a.heap.size ≤ r) (o : Obj) : Keeps S a (b.putObj r o) :=
  ⟨h.os, h.tape, h.output, by simpa [World.putObj] using h.size, fun k hk hn => by
    have hne : r ≠ k := by rintro rfl; rcases hp with hp | hp; exact hn hp; omega
    simp only [World.putObj]; rw [Array.getElem?_setIfInBounds_ne hne]; exact h.block k hk hn⟩
theorem Keeps.grown {S : Nat → Prop} {a b c : World} {row : Option Nat} (h : Keeps S a b) (hg : b.grownBy c row) (hr : ∀ k, row = some k → S k ∨ a.heap.size ≤ k) : Keeps S a c :=
  ⟨hg.os.trans h.os, hg.tape.trans h.tape, hg.output.trans h.output, Nat.le_trans h.size hg.size, fun k hk hn =>
    (hg.block k (Nat.lt_of_lt_of_le hk h.size) (fun e => by rcases hr k e.symm with x | x; exact hn x; omega)).trans (h.block k hk hn)⟩
theorem Keeps.below {S : Nat → Prop} {a b : World} (h : Keeps S a b) {B : Nat} (hB : B ≤ a.heap.size) (hs : ∀ k, S k → B ≤ k) : Below B a b :=
  ⟨h.os, h.tape, h.output, h.size, fun k hk => h.block k (by omega) (fun x => by have := hs k x; omega)⟩
theorem Keeps.of_below {B : Nat} {a b : World} (h : Below B a b) (S : Nat → Prop) (hs : ∀ k, k < a.heap.size → B ≤ k → S k) : Keeps S a b :=
  ⟨h.os, h.tape, h.output, h.size, fun k hk hn => h.block k (Nat.lt_of_not_le fun x => hn (hs k hk x))⟩
theorem Keeps.blk {S : Nat → Prop} {a b : World} (h : Keeps S a b) {k : Nat} {c : Array Value} {t : TypeId} (hb : Blk a k c t) (hn : ¬ S k) : Blk b k c t :=
  (h.block k hb.lt hn).trans hb
theorem Keeps.obj {S : Nat → Prop} {a b : World} (h : Keeps S a b) {k : Nat} {o : Obj} (hb : a.heap[k]? = some o) (hn : ¬ S k) : b.heap[k]? = some o :=
  (h.block k (Array.getElem?_eq_some_iff.1 hb).1 hn).trans hb

theorem Blk.putObj {w : World} {b : Nat} {c : Array Value} {t : TypeId} (h : Blk w b c t) {r : Nat} (hne : b ≠ r) (o : Obj) : Blk (w.putObj r o) b c t := by
  unfold Blk at *; simp only [World.putObj]; rw [Array.getElem?_setIfInBounds_ne (Ne.symm hne)]; exact h

theorem heap_setCell_obj {w : World} {m : Nat} {o : Obj} (h : w.heap[m]? = some o) (ho : o.isCells = false) (a : Addr) (v : Value) : (w.setCell a v).heap[m]? = some o := by
  by_cases e : m = a.block
  · subst e
    simp only [World.setCell]
    rw [Array.getElem?_modify, if_pos rfl, h]
    cases o <;> simp_all [Obj.isCells]
  · rw [Below.heap_setCell _ _ _ _ e]; exact h

theorem inj_on_of_nodup_map {α β : Type} {f : α → β} {l : List α} (h : (l.map f).Nodup) {a b : α} (ha : a ∈ l) (hb : b ∈ l) (e : f a = f b) : a = b := by
  induction l with
  | nil => cases ha
  | cons c l ih =>
    simp only [List.map_cons, List.nodup_cons] at h
    rcases List.mem_cons.1 ha with h1 | h1
    · rcases List.mem_cons.1 hb with h2 | h2
      · rw [h1, h2]
      · exact (h.1 (List.mem_map.2 ⟨b, h2, by rw [← e, h1]⟩)).elim
    · rcases List.mem_cons.1 hb with h2 | h2
      · exact (h.1 (List.mem_map.2 ⟨a, h1, by rw [e, h2]⟩)).elim
      · exact ih h.2 h1 h2

/-! ### Maps with whole numbers as keys -/
/-- The entries of a map whose keys are ints: keys and stamps differ. -/
structure IntEs (es : Array MapEntry) (clock : Nat) : Prop where
  key : ∀ e ∈ es, ∃ k, e.key = .int .i64 k
  nodup : (es.toList.map (·.key)).Nodup
  born : ∀ e ∈ es, e.born < clock
  borns : (es.toList.map (·.born)).Nodup

theorem IntEs.empty (c : Nat) : IntEs #[] c := ⟨by simp, by simp, by simp, by simp⟩

/-- What such a map has at a number. -/
def esGet : List MapEntry → Int → Option Value
  | [], _ => none
  | e :: es, k => match e.key with | .int _ n => if n = k then some e.val else esGet es k | _ => esGet es k

theorem findNow_int (es : List MapEntry) (hk : ∀ e ∈ es, ∃ k, e.key = .int .i64 k) (k : Int) (K : IntKind) : ∀ i, ∃ r, findNow (.int K) (.int .i64 k) es i = some r ∧ r.map (·.2) = esGet es k ∧
    (∀ x, r = some x → i ≤ x.1 ∧ ∃ e, es[x.1 - i]? = some e ∧ e.key = .int .i64 k) ∧ (r = none → ∀ e ∈ es, e.key ≠ .int .i64 k) := by
  induction es with
  | nil => intro i; exact ⟨none, rfl, rfl, by simp, by simp⟩
  | cons e es ih =>
    intro i
    obtain ⟨n, hn⟩ := hk e (by simp)
    by_cases h : n = k
    · subst h
      refine ⟨some (i, e.val), ?_, ?_, ?_, by simp⟩
      · simp [findNow, hn, sameNow]
      · simp [esGet, hn]
      · intro x hx; injection hx with hx; subst hx; exact ⟨Nat.le_refl _, e, by simp, hn⟩
    · obtain ⟨r, h1, h2, h3, h4⟩ := ih (fun e he => hk e (by simp [he])) (i + 1)
      refine ⟨r, ?_, ?_, ?_, ?_⟩
      · have : (k == n) = false := by simpa using fun x => h x.symm
        simp [findNow, hn, sameNow, this, h1]
      · simp [esGet, hn, h, h2]
      · intro x hx
        obtain ⟨g1, e', g2, g3⟩ := h3 x hx
        refine ⟨by omega, e', ?_, g3⟩
        rw [show x.1 - i = (x.1 - (i + 1)) + 1 from by omega]; simpa using g2
      · intro hr e' he'
        rcases List.mem_cons.1 he' with rfl | he'
        · rw [hn]; intro x; injection x with _ x; exact h x
        · exact h4 hr e' he'

theorem esGet_append (a b : List MapEntry) (k : Int) : esGet (a ++ b) k = (esGet a k).or (esGet b k) := by
  induction a with
  | nil => simp [esGet]
  | cons e a ih =>
    simp only [List.cons_append, esGet]
    split
    · split
      · simp
      · exact ih
    · exact ih
theorem esGet_mem {es : List MapEntry} {k : Int} {v : Value} (h : esGet es k = some v) : ∃ e ∈ es, (∃ q, e.key = .int q k) ∧ e.val = v := by
  induction es with
  | nil => simp [esGet] at h
  | cons e es ih =>
    simp only [esGet] at h
    split at h
    · rename_i q n hk
      split at h
      · rename_i hn; subst hn; injection h with h; exact ⟨e, by simp, ⟨q, hk⟩, h⟩
      · obtain ⟨e', a, b⟩ := ih h; exact ⟨e', by simp [a], b⟩
    · obtain ⟨e', a, b⟩ := ih h; exact ⟨e', by simp [a], b⟩
theorem esGet_set (es : List MapEntry) (hn : (es.map (·.key)).Nodup) (hk : ∀ e ∈ es, ∃ k, e.key = .int .i64 k) (i : Nat) (e0 : MapEntry) (hi : es[i]? = some e0) (k : Int) (h0 : e0.key = .int .i64 k) (v : Value) (j : Int) :
    esGet (es.set i { e0 with key := .int .i64 k, val := v }) j = if j = k then some v else esGet es j := by
  induction es generalizing i with
  | nil => simp at hi
  | cons e es ih =>
    cases i with
    | zero =>
      simp at hi; subst hi
      simp only [List.set_cons_zero, esGet, h0]
      by_cases h : j = k
      · simp [h]
      · simp [h, Ne.symm h]
    | succ i =>
      simp only [List.getElem?_cons_succ] at hi
      obtain ⟨n, hn'⟩ := hk e (by simp)
      simp only [List.map_cons, List.nodup_cons] at hn
      have hne : n ≠ k := by
        rintro rfl
        exact hn.1 (List.mem_map.2 ⟨e0, List.mem_of_getElem? hi, by rw [h0, hn']⟩)
      simp only [List.set_cons_succ, esGet, hn']
      rw [ih hn.2 (fun e he => hk e (by simp [he])) i hi]
      by_cases h : n = j
      · subst h; simp [hne]
      · simp [h]

section maps
variable {P : Program} {T K E : TypeId} {q : IntKind}
theorem run_checkKey_int (hK : P.underlying K = some (.int q)) (w : World) (b : Bool) (k : Int) : (checkKey b 10000 K (.int .i64 k)).run P w = .ok () w := by
  have h : ∀ n, (checkKey b (n + 1) K (.int .i64 k)).run P w = .ok () w := by intro n; simp [checkKey, run_underlying hK]
  exact h 9999
theorem run_lookup_int (hT : P.underlying T = some (.map K E)) (hK : P.underlying K = some (.int q)) {z : Value} (hz : ∀ w, (zeroValue E).run P w = .ok z w)
    {w : World} {m clock : Nat} {es : Array MapEntry} (hm : w.heap[m]? = some (.map es clock)) (he : ∀ e ∈ es, ∃ k, e.key = .int .i64 k) (k : Int) :
    (Instr.lookup T (.map (some m)) (.int .i64 k) false).run P w = .ok ((esGet es.toList k).getD z) w := by
  obtain ⟨r, h1, h2, -, -⟩ := findNow_int es.toList (by simpa using he) k q 0
  have hf : (findKey K (.int .i64 k) es.toList).run P w = .ok r w := by
    unfold findKey; simp [run_underlying hK, h1]
  have hc := run_checkKey_int (P := P) hK w
  have hg : (getObj m).run P w = .ok (.map es clock) w := by simp [getObj, Sem.run, hm]
  unfold Instr.lookup
  simp only [Sem.run_bind, run_underlying hT, hg, Result.andThen_ok, Sem.run_pure]
  rw [hc, Result.andThen_ok, hf, Result.andThen_ok]
  cases r with
  | none => simp at h2; simp [hz, ← h2]
  | some x => simp at h2; simp [← h2]
theorem run_lookup_nil (hT : P.underlying T = some (.map K E)) (hK : P.underlying K = some (.int q)) {z : Value} (hz : ∀ w, (zeroValue E).run P w = .ok z w) (w : World) (k : Int) :
    (Instr.lookup T (.map none) (.int .i64 k) false).run P w = .ok z w := by
  have hf : (findKey K (.int .i64 k) (#[] : Array MapEntry).toList).run P w = .ok none w := by
    unfold findKey; simp [run_underlying hK, findNow]
  have hc := run_checkKey_int (P := P) hK w
  unfold Instr.lookup
  simp only [Sem.run_bind, run_underlying hT, Result.andThen_ok, Sem.run_pure]
  rw [hc, Result.andThen_ok, hf, Result.andThen_ok]
  simp [hz]
/-- A store into a map: the entry is there, or it's new. -/
theorem run_mapUpdate_int (hT : P.underlying T = some (.map K E)) (hK : P.underlying K = some (.int q))
    (m : Nat) {clock : Nat} {es : Array MapEntry} (he : IntEs es clock) (k : Int) (v : Value) :
    ∃ es' clock', (∀ w : World, w.heap[m]? = some (.map es clock) → (Instr.mapUpdate T (.map (some m)) (.int .i64 k) v).run P w = .ok () (w.putObj m (.map es' clock'))) ∧ IntEs es' clock' ∧
      (∀ j, esGet es'.toList j = if j = k then some v else esGet es.toList j) ∧
      (∀ e', e' ∈ es' → (e'.key = .int .i64 k ∧ e'.val = v) ∨ (e' ∈ es ∧ e'.key ≠ .int .i64 k)) ∧ (∀ e, e ∈ es → e.key ≠ .int .i64 k → e ∈ es') := by
  obtain ⟨r, h1, h2, h3, h4⟩ := findNow_int es.toList (by simpa using he.key) k q 0
  have hstart : ∀ (w : World), w.heap[m]? = some (.map es clock) → ∀ R : Result Unit, (Sem.run P (match r with
      | some (i, _) => do
        let key ← keyThatStays (((es[i]?).map (·.key)).getD (.int .i64 k)) (.int .i64 k)
        setObj m (.map (es.modify i fun e => { e with key, val := v }) clock)
      | none => setObj m (.map (es.push { key := .int .i64 k, val := v, born := clock }) (clock + 1))) w = R) → (Instr.mapUpdate T (.map (some m)) (.int .i64 k) v).run P w = R := by
    intro w hm R hR
    have hf : (findKey K (.int .i64 k) es.toList).run P w = .ok r w := by
      unfold findKey; simp [run_underlying hK, h1]
    have hc := run_checkKey_int (P := P) hK w
    have hg : (getObj m).run P w = .ok (.map es clock) w := by simp [getObj, Sem.run, hm]
    unfold Instr.mapUpdate
    simp only [Sem.run_bind, run_underlying hT, hg, Result.andThen_ok, Sem.run_pure]
    rw [hc, Result.andThen_ok, hf, Result.andThen_ok]
    exact hR
  have hs : ∀ (w : World), w.heap[m]? = some (.map es clock) → ∀ o, (setObj m o).run P w = .ok () (w.putObj m o) := by intro w hm o; simp [setObj, Sem.run, hm, World.putObj]
  cases r with
  | none =>
    have h4 := h4 rfl
    refine ⟨es.push ⟨.int .i64 k, v, clock⟩, clock + 1, fun w hm => hstart w hm _ (hs w hm _), ⟨?_, ?_, ?_, ?_⟩, ?_, ?_, ?_⟩
    · intro e hx
      rcases Array.mem_push.1 hx with hx | rfl
      · exact he.key e hx
      · exact ⟨k, rfl⟩
    · rw [Array.toList_push, List.map_append, List.nodup_append]
      refine ⟨he.nodup, by simp, ?_⟩
      intro a ha b hb
      simp at hb; subst hb
      rw [List.mem_map] at ha
      obtain ⟨e, hx, rfl⟩ := ha
      exact h4 e hx
    · intro e hx
      rcases Array.mem_push.1 hx with hx | rfl
      · have := he.born e hx; omega
      · simp
    · rw [Array.toList_push, List.map_append, List.nodup_append]
      refine ⟨he.borns, by simp, ?_⟩
      intro a ha b hb
      simp at hb; subst hb
      rw [List.mem_map] at ha
      obtain ⟨e, hx, rfl⟩ := ha
      have := he.born e (by simpa using hx)
      omega
    · intro j
      rw [Array.toList_push, esGet_append]
      by_cases hj : j = k
      · subst hj; rw [if_pos rfl]; simp at h2; rw [← h2]; simp [esGet]
      · rw [if_neg hj]
        cases esGet es.toList j <;> simp [esGet, Ne.symm hj]
    · intro e' hx
      rcases Array.mem_push.1 hx with hx | rfl
      · exact .inr ⟨hx, h4 e' (by simpa using hx)⟩
      · exact .inl ⟨rfl, rfl⟩
    · intro e hx _
      exact Array.mem_push.2 (.inl hx)
  | some x =>
    obtain ⟨-, e0, h5, h6⟩ := h3 x rfl
    obtain ⟨i, u⟩ := x
    simp only [Nat.sub_zero] at h5
    have hi : es[i]? = some e0 := by simpa using h5
    obtain ⟨hlt, hie⟩ := Array.getElem?_eq_some_iff.1 hi
    have hkt : ∀ w, (keyThatStays (((es[i]?).map (·.key)).getD (.int .i64 k)) (.int .i64 k)).run P w = .ok (.int .i64 k) w := by
      intro w; simp [hi, h6, keyThatStays, sameBits]
    have hmod : (es.modify i fun e => { e with key := .int .i64 k, val := v }).toList = es.toList.set i { e0 with key := .int .i64 k, val := v } := by
      apply List.ext_getElem? ; intro j
      rw [List.getElem?_set]
      by_cases e : i = j
      · subst e; simp [hlt, Array.getElem?_modify, ← hie]
      · simp [Array.getElem?_modify, e]
    have hkeys : (es.toList.set i { e0 with key := .int .i64 k, val := v }).map (·.key) = es.toList.map (·.key) := by
      rw [List.map_set]
      apply List.ext_getElem?; intro j
      rw [List.getElem?_set]
      by_cases e : i = j
      · subst e; simp [hlt, hie, h6]
      · simp [e]
    have hborns : (es.toList.set i { e0 with key := .int .i64 k, val := v }).map (·.born) = es.toList.map (·.born) := by
      rw [List.map_set]
      apply List.ext_getElem?; intro j
      rw [List.getElem?_set]
      by_cases e : i = j
      · subst e; simp [hlt, ← hie]
      · simp [e]
    refine ⟨es.modify i fun e => { e with key := .int .i64 k, val := v }, clock, fun w hm => hstart w hm _ (by simp only [hkt, Sem.run_bind, Result.andThen_ok, hs w hm]), ⟨?_, by rw [hmod, hkeys]; exact he.nodup, ?_, by rw [hmod, hborns]; exact he.borns⟩, ?_, ?_, ?_⟩
    · intro e hx
      have : e.key ∈ es.toList.map (·.key) := by rw [← hkeys, ← hmod]; exact List.mem_map.2 ⟨e, Array.mem_toList_iff.2 hx, rfl⟩
      obtain ⟨e1, g1, g2⟩ := List.mem_map.1 this
      rw [← g2]; exact he.key e1 (by simpa using g1)
    · intro e hx
      have : e.born ∈ es.toList.map (·.born) := by rw [← hborns, ← hmod]; exact List.mem_map.2 ⟨e, Array.mem_toList_iff.2 hx, rfl⟩
      obtain ⟨e1, g1, g2⟩ := List.mem_map.1 this
      rw [← g2]; exact he.born e1 (by simpa using g1)
    · intro j
      rw [hmod]
      exact esGet_set es.toList he.nodup (by simpa using he.key) i e0 (by simpa using hi) k h6 v j
    · intro e' hx
      have hx' : e' ∈ es.toList.set i { e0 with key := .int .i64 k, val := v } := by rw [← hmod]; exact Array.mem_toList_iff.2 hx
      obtain ⟨j, hj⟩ := List.getElem?_of_mem hx'
      rw [List.getElem?_set] at hj
      by_cases e : i = j
      · simp [e] at hj
        obtain ⟨_, rfl⟩ := hj
        exact .inl ⟨rfl, rfl⟩
      · simp only [e, if_false] at hj
        refine .inr ⟨by simpa using List.mem_of_getElem? hj, ?_⟩
        intro hk
        have a1 : (es.toList.map (·.key))[j]? = some (.int .i64 k) := by simp at hj; simp [hj, hk]
        have a2 : (es.toList.map (·.key))[i]? = some (.int .i64 k) := by simp [hi, h6]
        exact e ((List.getElem?_inj (by simpa using hlt) he.nodup).1 (a2.trans a1.symm))
    · intro e hx hk
      obtain ⟨j, hj⟩ := List.getElem?_of_mem (show e ∈ es.toList by simpa using hx)
      have hne : i ≠ j := by
        rintro rfl
        rw [h5] at hj; injection hj with hj; subst hj; exact hk h6
      have : (es.toList.set i { e0 with key := .int .i64 k, val := v })[j]? = some e := by rw [List.getElem?_set]; simp only [hne, if_false]; exact hj
      have := List.mem_of_getElem? this
      rw [← hmod] at this; exact Array.mem_toList_iff.1 this
end maps

/-- append to a row of one's own: and the row is in its block, or in a new one. -/
theorem append_own_fresh {P : Program} (w : World) (base : Nat) (t ty e : TypeId) (i : TypeInfo) (z : Value) (size bytes : Nat) (ht : P.underlying t = some (.slice e)) (hi : P.info? e = some i) (hz : i.zero = some z)
    (hsize : i.size = size) (hby : i.bytes = bytes) (hzs : z.cells.size = size) (hsz : 0 < size)
    (v : Value) (n : Nat) (xs : List Value) (hown : w.ownsRow base e size v n xs)
    (a : Addr) (m c : Nat) (news : List Value) (hl : news.length = m * size) (hnews : ∀ j u, news[j]? = some u → w.cell? (a.add j) = some u) (h1 : ∀ u ∈ news, u.oneCell' = true)
    (h63 : n + m ≤ maxLen) (hbytes : (n + m) * bytes ≤ 140737488355328) (hbase : base ≤ w.heap.size) :
    ∃ v' w', (Builtin.append_ #[t, t] ty #[v, .slice (some a) m c]).run P w = .ok v' w' ∧ w'.ownsRow base e size v' (n + m) (xs ++ news) ∧ w.grownBy w' v.ownBlock ∧
      (v' = .slice none 0 0 ↔ v = .slice none 0 0 ∧ m = 0) ∧ (∀ k, v'.ownBlock = some k → v.ownBlock = some k ∨ w.heap.size ≤ k) := by
  obtain ⟨v', w', hr, h2, h3, h4⟩ := run_append_own (P := P) w base t ty e i z size bytes ht hi hz hsize hby hzs hsz v n xs hown a m c news hl hnews h1 h63 hbytes hbase
  refine ⟨v', w', hr, h2, h3, h4, ?_⟩
  rcases hown.2 with ⟨rfl, rfl⟩ | ⟨g, cap, cur, rfl, hbg, hg, hnc, hcm, hcs, htake⟩
  · have hx : xs = [] := List.eq_nil_of_length_eq_zero (by simpa using hown.1)
    subst hx
    obtain ⟨v2, w2, hr2, g2, -, -⟩ := run_append_own (P := P) w w.heap.size t ty e i z size bytes ht hi hz hsize hby hzs hsz (.slice none 0 0) 0 [] (World.ownsRow_nil w _ e size) a m c news hl hnews h1 h63 hbytes (Nat.le_refl _)
    rw [hr] at hr2; injection hr2 with e1 e2; subst e1; subst e2
    exact fun k hk => .inr (g2.lt k hk).1
  · by_cases hroom : n + m ≤ cap
    · subst hsize
      have hfit : n * i.size + news.length ≤ cur.size := by rw [hl, hcs, ← Nat.add_mul]; exact Nat.mul_le_mul_right _ hroom
      have hr2 := run_append_room (P := P) w t ty e i ht hi g n cap cur hg a m c news hl hnews h1 hroom hfit
      rw [hr] at hr2; injection hr2 with e1 e2; subst e1
      exact fun k hk => .inl hk
    · subst hsize; subst hby
      have holds : ∀ j u, xs[j]? = some u → w.cell? ((⟨g, 0, none⟩ : Addr).add j) = some u := hown.cells (g := g) rfl
      have hr2 := run_append_grow (P := P) w t ty e i z ht hi hz ⟨g, 0, none⟩ n cap xs hown.1 holds a m c news hl hnews (by omega) (by simp only [maxLen] at h63; omega) (growslice_fits (by omega) hbytes)
      rw [hr] at hr2; injection hr2 with e1 e2; subst e1
      intro k hk
      injection hk with hk
      subst hk
      exact .inr (Nat.le_refl _)
theorem wpList_append_fresh {P : Program} {w : World} {ops : Array Oper} {rest : List Oper} {o : Oper} {a : Act} {Q : Exit → Act → World → Prop} (hgd : o.guard = none) (s x : Operand) (t : TypeId)
    (ho : o.op = .call { callee := .builtin .append, args := #[s, x], argTypes := #[t, t] })
    (base : Nat) (e : TypeId) (i : TypeInfo) (z : Value) (size bytes : Nat) (ht : P.underlying t = some (.slice e)) (hi : P.info? e = some i) (hz : i.zero = some z)
    (hsize : i.size = size) (hby : i.bytes = bytes) (hzs : z.cells.size = size) (hsz : 0 < size)
    (v : Value) (n : Nat) (xs : List Value) (hs : a.eval s = v) (hown : w.ownsRow base e size v n xs)
    (ad : Addr) (m c : Nat) (news : List Value) (hx : a.eval x = .slice (some ad) m c) (hl : news.length = m * size) (hnews : ∀ j u, news[j]? = some u → w.cell? (ad.add j) = some u) (h1 : ∀ u ∈ news, u.oneCell' = true)
    (h63 : n + m ≤ maxLen) (hbytes : (n + m) * bytes ≤ 140737488355328) (hbase : base ≤ w.heap.size)
    (h : ∀ v' w', w'.ownsRow base e size v' (n + m) (xs ++ news) → w.grownBy w' v.ownBlock → (v' = .slice none 0 0 ↔ v = .slice none 0 0 ∧ m = 0) → (∀ k, v'.ownBlock = some k → v.ownBlock = some k ∨ w.heap.size ≤ k) → wpList P ops Q rest (a.put o.dst v') w') : wpList P ops Q (o :: rest) a w := by
  refine wpList_plain hgd fun K hK => ?_
  obtain ⟨v', w', hr, h2, h3, h4, h5⟩ := append_own_fresh (P := P) w base t o.type e i z size bytes ht hi hz hsize hby hzs hsz v n xs hown ad m c news hl hnews h1 h63 hbytes hbase
  unfold Oper.wp execOp
  simp only [ho, resolve, invoke, builtin, Sem.run_bind, Sem.run_pure, Result.andThen_ok, List.map_toArray, List.map_cons, List.map_nil, hs, hx, hr]
  exact hK _ _ (h v' w' h2 h3 h4 h5)

/-- A store into a map, at the operation. -/
theorem wpList_mapUpdate_at {P : Program} {w w2 : World} {ops : Array Oper} {rest : List Oper} {o : Oper} {a : Act} {Q : Exit → Act → World → Prop}
    (hg : o.guard = none) (m x v : Operand) (t : TypeId) (hop : o.op = Op.mapUpdate t m x v) (hrun : (Instr.mapUpdate t (a.eval m) (a.eval x) (a.eval v)).run P w = .ok () w2)
    (hK : ∀ w', w' = w2 → wpList P ops Q rest (a.put o.dst undef) w') : wpList P ops Q (o :: rest) a w := by
  refine wpList_plain hg fun K' hK' => ?_
  unfold Oper.wp
  simp [execOp, hop, hrun, Result.andThen]
  exact hK' _ _ (hK w2 rfl)
end Go.Proofs.YtlaepkmnbbgbcaaGreatDoor
/- The table of the operations: the checks of operands. -/
namespace Go.Proofs.YtlaepkmnbbgbcaaGreatDoor
open Go.RowKit Go.Instr
set_option linter.unusedVariables false
set_option linter.unusedSimpArgs false
attribute [local go_sem] Oper.semAt_some

/-- What an operand must be: nothing is asked of none; a number between two; an index of a table (by the number of the function that says its length); an index of a text that is an integer; of a text. -/
inductive Ck where
  | none
  | btw (lo hi : Int)
  | idx (f : Nat)
  | int
  | text
/-- A function value that checks so. -/
def CkV (w : World) (v : Value) : Ck → Prop
  | .none => v = .nilFunc
  | .btw lo hi => ∃ b1 b2, v = .func (.func 139) #[] #[.pointer (some ⟨b1, 0, none⟩), .pointer (some ⟨b2, 0, none⟩)] ∧ Blk w b1 #[.int .i64 lo] 3 ∧ Blk w b2 #[.int .i64 hi] 3
  | .idx f => ∃ b, v = .func (.func 140) #[] #[.pointer (some ⟨b, 0, none⟩)] ∧ Blk w b #[.func (.func f) #[] #[]] 152
  | .int => v = .func (.func 105) #[] #[]
  | .text => v = .func (.func 107) #[] #[]
theorem CkV.ext {w w' : World} {v : Value} {c : Ck} (h : CkV w v c) (hx : Keeps (fun _ => False) w w') : CkV w' v c := by
  cases c with
  | none => exact h
  | btw lo hi => obtain ⟨b1, b2, e, h1, h2⟩ := h; exact ⟨b1, b2, e, hx.blk h1 id, hx.blk h2 id⟩
  | idx f => obtain ⟨b, e, h1⟩ := h; exact ⟨b, e, hx.blk h1 id⟩
  | int => exact h
  | text => exact h
theorem between_any (lo hi : Int) (w : World) : Calls Tryz.prog 100 #[.int .i64 lo, .int .i64 hi] w fun e w' => ∃ v, e = .returned v ∧ CkV w' v (.btw lo hi) ∧ Keeps (fun _ => False) w w' := by
  go_enter Tryz.func100, Tryz.ntmps100
  go_wp2
  go_ret
  refine ⟨_, rfl, ⟨w.heap.size, w.heap.size + 1, rfl, ?_, ?_⟩, ((Keeps.refl _ w).alloc _).alloc _⟩
  · exact (Blk.new w _ _).alloc _
  · have := Blk.new (w.alloc (.cells #[.int .i64 lo] 3)) #[.int .i64 hi] 3
    rw [World.size_alloc] at this; exact this
theorem indexOf_any (f : Nat) (w : World) : Calls Tryz.prog 101 #[.func (.func f) #[] #[]] w fun e w' => ∃ v, e = .returned v ∧ CkV w' v (.idx f) ∧ Keeps (fun _ => False) w w' := by
  go_enter Tryz.func101, Tryz.ntmps101
  go_wp2
  go_ret
  exact ⟨_, rfl, ⟨w.heap.size, rfl, Blk.new w _ _⟩, (Keeps.refl _ w).alloc _⟩

/-! ### The map -/
def upd (f : Int → Option Value) (k : Int) (v : Value) (j : Int) : Option Value := if j = k then some v else f j
/-- The map in memory says f. -/
def OpsAt (w : World) (m : Nat) (f : Int → Option Value) : Prop := ∃ es ck, w.heap[m]? = some (.map es ck) ∧ IntEs es ck ∧ ∀ j, esGet es.toList j = f j
theorem OpsAt.keep {S : Nat → Prop} {w w' : World} {m : Nat} {f : Int → Option Value} (h : OpsAt w m f) (hk : Keeps S w w') (hn : ¬ S m) : OpsAt w' m f := by
  obtain ⟨es, ck, h1, h2, h3⟩ := h
  exact ⟨es, ck, hk.obj h1 hn, h2, h3⟩
set_option maxRecDepth 100000 in
theorem wpList_insert {w : World} {ops : Array Oper} {rest : List Oper} {o : Oper} {a : Act} {Q : Exit → Act → World → Prop} (hgd : o.guard = none) (mo ko vo : Operand) (ho : o.op = .insert 111 mo ko vo)
    (m : Nat) (k : Int) (v : Value) (hm : a.eval mo = .map (some m)) (hk : a.eval ko = .int .i64 k) (hv : a.eval vo = v) {f : Int → Option Value} (h : OpsAt w m f)
    (hn : ∀ w', OpsAt w' m (upd f k v) → Keeps (· = m) w w' → wpList Tryz.prog ops Q rest (a.put o.dst undef) w') : wpList Tryz.prog ops Q (o :: rest) a w := by
  obtain ⟨es, ck, h1, h2, h3⟩ := h
  obtain ⟨es', ck', hr, h4, h5, -, -⟩ := run_mapUpdate_int (P := Tryz.prog) Tryz.underlying111 Tryz.underlying3 m h2 k v
  have hrun := hr w h1
  refine wpList_plain hgd fun K' hK' => ?_
  unfold Oper.wp
  simp [execOp, ho, hm, hk, hv, hrun, Result.andThen]
  exact hK' _ _ (hn _ ⟨es', ck', by simp [World.putObj, (Array.getElem?_eq_some_iff.1 h1).1], h4, fun j => by rw [h5]; unfold upd; split <;> simp [h3]⟩ ((Keeps.refl (fun x => x = m) w).putObj (.inl rfl) _))
end Go.Proofs.YtlaepkmnbbgbcaaGreatDoor
