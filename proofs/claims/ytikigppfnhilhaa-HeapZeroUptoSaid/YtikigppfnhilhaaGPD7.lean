/- Maps with pointers to blocks as keys. What a store does to a heap in memory. -/
import Derived.Test.YtikigppfnhilhaaGPD1
import Derived.LaidEql
import Derived.Test.YtikigppfnhilhaaGPD3
/- Maps with pointers to blocks as keys. -/
namespace Go.Proofs.Ytikigppfnhilhaa
open Go.RowKit Go.Instr
set_option linter.unusedVariables false
set_option linter.unusedSimpArgs false

/-! ### Maps with pointers to blocks as keys -/
/-- The entries of a map whose keys are ints: keys and stamps differ. -/
structure PtrEs (es : Array MapEntry) (clock : Nat) : Prop where
  key : ∀ e ∈ es, ∃ k, e.key = .pointer (some ⟨k, 0, none⟩)
  nodup : (es.toList.map (·.key)).Nodup
  born : ∀ e ∈ es, e.born < clock
  borns : (es.toList.map (·.born)).Nodup

theorem PtrEs.empty (c : Nat) : PtrEs #[] c := ⟨by simp, by simp, by simp, by simp⟩

/-- What such a map has at a number. -/
def esPtr : List MapEntry → Nat → Option Value
  | [], _ => none
  | e :: es, k => match e.key with | .pointer (some n) => if n.block = k then some e.val else esPtr es k | _ => esPtr es k

/-- Where such a map has a key. -/
def findPtr : List MapEntry → Nat → Nat → Option (Nat × Value)
  | [], _, _ => none
  | e :: es, k, i => match e.key with | .pointer (some n) => if n.block = k then some (i, e.val) else findPtr es k (i + 1) | _ => findPtr es k (i + 1)

theorem findPtr_spec (es : List MapEntry) (hk : ∀ e ∈ es, ∃ k, e.key = .pointer (some ⟨k, 0, none⟩)) (k : Nat) : ∀ i, (findPtr es k i).map (·.2) = esPtr es k ∧
    (∀ x, findPtr es k i = some x → i ≤ x.1 ∧ ∃ e, es[x.1 - i]? = some e ∧ e.key = .pointer (some ⟨k, 0, none⟩)) ∧ (findPtr es k i = none → ∀ e ∈ es, e.key ≠ .pointer (some ⟨k, 0, none⟩)) := by
  induction es with
  | nil => intro i; exact ⟨rfl, by simp [findPtr], by simp⟩
  | cons e es ih =>
    intro i
    obtain ⟨n, hn⟩ := hk e (by simp)
    by_cases h : n = k
    · subst h
      have hf : findPtr (e :: es) n i = some (i, e.val) := by simp [findPtr, hn]
      refine ⟨?_, ?_, by rw [hf]; simp⟩
      · rw [hf]; simp [esPtr, hn]
      · rw [hf]; intro x hx; injection hx with hx; subst hx; exact ⟨Nat.le_refl _, e, by simp, hn⟩
    · have hf : findPtr (e :: es) k i = findPtr es k (i + 1) := by simp [findPtr, hn, h]
      obtain ⟨h2, h3, h4⟩ := ih (fun e he => hk e (by simp [he])) (i + 1)
      rw [hf]
      refine ⟨?_, ?_, ?_⟩
      · simp [esPtr, hn, h, h2]
      · intro x hx
        obtain ⟨g1, e', g2, g3⟩ := h3 x hx
        refine ⟨by omega, e', ?_, g3⟩
        rw [show x.1 - i = (x.1 - (i + 1)) + 1 from by omega]; simpa using g2
      · intro hr e' he'
        rcases List.mem_cons.1 he' with rfl | he'
        · rw [hn]; intro x; injection x with x; injection x with x; injection x with x; exact h x
        · exact h4 hr e' he'

theorem esPtr_append (a b : List MapEntry) (k : Nat) : esPtr (a ++ b) k = (esPtr a k).or (esPtr b k) := by
  induction a with
  | nil => simp [esPtr]
  | cons e a ih =>
    simp only [List.cons_append, esPtr]
    split
    · split
      · simp
      · exact ih
    · exact ih
theorem esPtr_mem {es : List MapEntry} {k : Nat} {v : Value} (h : esPtr es k = some v) : ∃ e ∈ es, (∃ a : Addr, e.key = .pointer (some a) ∧ a.block = k) ∧ e.val = v := by
  induction es with
  | nil => simp [esPtr] at h
  | cons e es ih =>
    simp only [esPtr] at h
    split at h
    · rename_i n hk
      split at h
      · rename_i hn; injection h with h; exact ⟨e, by simp, ⟨n, hk, hn⟩, h⟩
      · obtain ⟨e', a, b⟩ := ih h; exact ⟨e', by simp [a], b⟩
    · obtain ⟨e', a, b⟩ := ih h; exact ⟨e', by simp [a], b⟩
theorem esPtr_set (es : List MapEntry) (hn : (es.map (·.key)).Nodup) (hk : ∀ e ∈ es, ∃ k, e.key = .pointer (some ⟨k, 0, none⟩)) (i : Nat) (e0 : MapEntry) (hi : es[i]? = some e0) (k : Nat) (h0 : e0.key = .pointer (some ⟨k, 0, none⟩)) (v : Value) (j : Nat) :
    esPtr (es.set i { e0 with key := .pointer (some ⟨k, 0, none⟩), val := v }) j = if j = k then some v else esPtr es j := by
  induction es generalizing i with
  | nil => simp at hi
  | cons e es ih =>
    cases i with
    | zero =>
      simp at hi; subst hi
      simp only [List.set_cons_zero, esPtr, h0]
      by_cases h : j = k
      · simp [h]
      · simp [h, Ne.symm h]
    | succ i =>
      simp only [List.getElem?_cons_succ] at hi
      obtain ⟨n, hn'⟩ := hk e (by simp)
      simp only [List.map_cons, List.nodup_cons] at hn
      have hne : n ≠ k := by
        rintro rfl
        exact hn.1 (List.mem_map.2 ⟨e0, List.mem_of_getElem? hi, by rw [h0, hn']⟩)
      simp only [List.set_cons_succ, esPtr, hn']
      rw [ih hn.2 (fun e he => hk e (by simp [he])) i hi]
      by_cases h : n = j
      · subst h; simp [hne]
      · simp [h]

section maps
variable {P : Program} {T K E te : TypeId} {ji : TypeInfo}
/-- A block of cells lies there, with nothing frozen. -/
def Lies (w : World) (k : Nat) : Prop := ∃ c t, w.heap[k]? = some (.cells c t (0, 0))
def LiesAll (w : World) (es : Array MapEntry) : Prop := ∀ e ∈ es, ∀ k, e.key = .pointer (some ⟨k, 0, none⟩) → Lies w k
theorem run_checkKey_ptr (hK : P.underlying K = some (.pointer te)) (w : World) (b : Bool) (k : Nat) : (checkKey b 10000 K (.pointer (some ⟨k, 0, none⟩))).run P w = .ok () w := by
  have h : ∀ n, (checkKey b (n + 1) K (.pointer (some ⟨k, 0, none⟩))).run P w = .ok () w := by intro n; simp [checkKey, run_underlying hK]
  exact h 9999
theorem run_equal_ptr (hK : P.underlying K = some (.pointer te)) (hte : P.info? te = some ji) (hsz : ji.size ≠ 0) {w : World} {k n : Nat} (hk : Lies w k) (hn : Lies w n) :
    (Op.equal K (.pointer (some ⟨k, 0, none⟩)) (.pointer (some ⟨n, 0, none⟩))).run P w = .ok (decide (k = n)) w := by
  have h : ∀ d : Nat, (Op.equalIn (d + 1) K (.pointer (some ⟨k, 0, none⟩)) (.pointer (some ⟨n, 0, none⟩))).run P w = .ok (decide (k = n)) w := fun d => by
    by_cases e : k = n
    · subst e
      simp [Op.equalIn, run_underlying hK, sizeOf, typeInfo, hte, hsz, run_sameAddr_same]
    · obtain ⟨c, t, hc⟩ := hk
      obtain ⟨c', t', hc'⟩ := hn
      have := run_sameAddr_other (P := P) w (a := ⟨k, 0, none⟩) (b := ⟨n, 0, none⟩) (fun x => e (by injection x)) hc hc'
      simp [Op.equalIn, run_underlying hK, sizeOf, typeInfo, hte, hsz, this, e]
  exact h 9999
theorem run_findAsking_ptr (hK : P.underlying K = some (.pointer te)) (hte : P.info? te = some ji) (hsz : ji.size ≠ 0) {w : World} {k : Nat} (hk : Lies w k) (es : List MapEntry) (he : ∀ e ∈ es, ∃ k, e.key = .pointer (some ⟨k, 0, none⟩))
    (hl : ∀ e ∈ es, ∀ k, e.key = .pointer (some ⟨k, 0, none⟩) → Lies w k) : ∀ i, (findAsking K (.pointer (some ⟨k, 0, none⟩)) es i).run P w = .ok (findPtr es k i) w := by
  induction es with
  | nil => intro i; rfl
  | cons e es ih =>
    intro i
    obtain ⟨n, hn⟩ := he e (by simp)
    have h1 := run_equal_ptr (P := P) hK hte hsz hk (hl e (by simp) n hn)
    unfold findAsking findPtr
    simp only [Sem.run_bind, hn, h1, Result.andThen_ok]
    by_cases e : k = n
    · simp [e]
    · simp only [e, decide_false, Bool.false_eq_true, if_false, if_neg (Ne.symm e)]
      exact ih (fun e he' => he e (by simp [he'])) (fun e he' => hl e (by simp [he'])) (i + 1)
theorem run_findKey_ptr (hK : P.underlying K = some (.pointer te)) (hte : P.info? te = some ji) (hsz : ji.size ≠ 0) {w : World} {k : Nat} (hk : Lies w k) {es : Array MapEntry} (he : ∀ e ∈ es, ∃ k, e.key = .pointer (some ⟨k, 0, none⟩))
    (hl : LiesAll w es) : (findKey K (.pointer (some ⟨k, 0, none⟩)) es.toList).run P w = .ok (findPtr es.toList k 0) w := by
  have h := run_findAsking_ptr (P := P) hK hte hsz hk es.toList (by simpa using he) (fun e h => hl e (by simpa using h)) 0
  unfold findKey
  simp only [Sem.run_bind, run_underlying hK, Result.andThen_ok]
  cases hes : es.toList with
  | nil => simp [findNow, findPtr]
  | cons e l =>
    have : findNow (.pointer te) (.pointer (some ⟨k, 0, none⟩)) (e :: l) 0 = none := by simp [findNow, sameNow]
    rw [this]; rw [hes] at h; exact h
theorem run_lookup_ptr (hT : P.underlying T = some (.map K E)) (hK : P.underlying K = some (.pointer te)) (hte : P.info? te = some ji) (hsz : ji.size ≠ 0) {z : Value} (hz : ∀ w, (zeroValue E).run P w = .ok z w)
    {w : World} {m clock : Nat} {es : Array MapEntry} (hm : w.heap[m]? = some (.map es clock)) (he : ∀ e ∈ es, ∃ k, e.key = .pointer (some ⟨k, 0, none⟩)) (hl : LiesAll w es) (k : Nat) (hk : Lies w k) :
    (Instr.lookup T (.map (some m)) (.pointer (some ⟨k, 0, none⟩)) false).run P w = .ok ((esPtr es.toList k).getD z) w := by
  have hf := run_findKey_ptr (P := P) hK hte hsz hk he hl
  have h2 := (findPtr_spec es.toList (by simpa using he) k 0).1
  have hc := run_checkKey_ptr (P := P) hK w
  have hg : (getObj m).run P w = .ok (.map es clock) w := by simp [getObj, Sem.run, hm]
  unfold Instr.lookup
  simp only [Sem.run_bind, run_underlying hT, hg, Result.andThen_ok, Sem.run_pure]
  rw [hc, Result.andThen_ok, hf, Result.andThen_ok]
  cases hr : findPtr es.toList k 0 with
  | none => rw [hr] at h2; simp at h2; simp [hz, ← h2]
  | some x => rw [hr] at h2; simp at h2; simp [← h2]
/-- A store into a map: the entry is there, or it's new. -/
theorem run_mapUpdate_ptr (hT : P.underlying T = some (.map K E)) (hK : P.underlying K = some (.pointer te)) (hte : P.info? te = some ji) (hsz : ji.size ≠ 0)
    (m : Nat) {clock : Nat} {es : Array MapEntry} (he : PtrEs es clock) (k : Nat) (v : Value) :
    ∃ es' clock', (∀ w : World, w.heap[m]? = some (.map es clock) → LiesAll w es → Lies w k → (Instr.mapUpdate T (.map (some m)) (.pointer (some ⟨k, 0, none⟩)) v).run P w = .ok () (w.putObj m (.map es' clock'))) ∧ PtrEs es' clock' ∧
      (∀ j, esPtr es'.toList j = if j = k then some v else esPtr es.toList j) ∧
      (∀ e', e' ∈ es' → (e'.key = .pointer (some ⟨k, 0, none⟩) ∧ e'.val = v) ∨ (e' ∈ es ∧ e'.key ≠ .pointer (some ⟨k, 0, none⟩))) ∧ (∀ e, e ∈ es → e.key ≠ .pointer (some ⟨k, 0, none⟩) → e ∈ es') := by
  obtain ⟨h2, h3, h4⟩ := findPtr_spec es.toList (by simpa using he.key) k 0
  generalize hr0 : findPtr es.toList k 0 = r at h2 h3 h4
  have hstart : ∀ (w : World), w.heap[m]? = some (.map es clock) → LiesAll w es → Lies w k → ∀ R : Result Unit, (Sem.run P (match r with
      | some (i, _) => do
        let key ← keyThatStays (((es[i]?).map (·.key)).getD (.pointer (some ⟨k, 0, none⟩))) (.pointer (some ⟨k, 0, none⟩))
        setObj m (.map (es.modify i fun e => { e with key, val := v }) clock)
      | none => setObj m (.map (es.push { key := .pointer (some ⟨k, 0, none⟩), val := v, born := clock }) (clock + 1))) w = R) → (Instr.mapUpdate T (.map (some m)) (.pointer (some ⟨k, 0, none⟩)) v).run P w = R := by
    intro w hm hla hlk R hR
    have hf : (findKey K (.pointer (some ⟨k, 0, none⟩)) es.toList).run P w = .ok r w := by
      rw [run_findKey_ptr (P := P) hK hte hsz hlk he.key hla, hr0]
    have hc := run_checkKey_ptr (P := P) hK w
    have hg : (getObj m).run P w = .ok (.map es clock) w := by simp [getObj, Sem.run, hm]
    unfold Instr.mapUpdate
    simp only [Sem.run_bind, run_underlying hT, hg, Result.andThen_ok, Sem.run_pure]
    rw [hc, Result.andThen_ok, hf, Result.andThen_ok]
    exact hR
  have hs : ∀ (w : World), w.heap[m]? = some (.map es clock) → ∀ o, (setObj m o).run P w = .ok () (w.putObj m o) := by intro w hm o; simp [setObj, Sem.run, hm, World.putObj]
  cases r with
  | none =>
    have h4 := h4 rfl
    refine ⟨es.push ⟨.pointer (some ⟨k, 0, none⟩), v, clock⟩, clock + 1, fun w hm hla hlk => hstart w hm hla hlk _ (hs w hm _), ⟨?_, ?_, ?_, ?_⟩, ?_, ?_, ?_⟩
    · intro e hx
      rcases Array.mem_push.1 hx with hx | rfl
      · exact he.key e hx
      · exact ⟨k, rfl⟩
    · rw [Array.toList_push, List.map_append, List.nodup_append]
      refine ⟨he.nodup, by simp, ?_⟩
      intro a ha b hb
      simp at hb; subst hb
      rw [List.mem_map] at ha
      obtain ⟨e, hx, rfl⟩ := ha
      exact h4 e hx
    · intro e hx
      rcases Array.mem_push.1 hx with hx | rfl
      · have := he.born e hx; omega
      · simp
    · rw [Array.toList_push, List.map_append, List.nodup_append]
      refine ⟨he.borns, by simp, ?_⟩
      intro a ha b hb
      simp at hb; subst hb
      rw [List.mem_map] at ha
      obtain ⟨e, hx, rfl⟩ := ha
      have := he.born e (by simpa using hx)
      omega
    · intro j
      rw [Array.toList_push, esPtr_append]
      by_cases hj : j = k
      · subst hj; rw [if_pos rfl]; simp at h2; rw [← h2]; simp [esPtr]
      · rw [if_neg hj]
        cases esPtr es.toList j <;> simp [esPtr, Ne.symm hj]
    · intro e' hx
      rcases Array.mem_push.1 hx with hx | rfl
      · exact .inr ⟨hx, h4 e' (by simpa using hx)⟩
      · exact .inl ⟨rfl, rfl⟩
    · intro e hx _
      exact Array.mem_push.2 (.inl hx)
  | some x =>
    obtain ⟨-, e0, h5, h6⟩ := h3 x rfl
    obtain ⟨i, u⟩ := x
    simp only [Nat.sub_zero] at h5
    have hi : es[i]? = some e0 := by simpa using h5
    obtain ⟨hlt, hie⟩ := Array.getElem?_eq_some_iff.1 hi
    have hkt : ∀ w, (keyThatStays (((es[i]?).map (·.key)).getD (.pointer (some ⟨k, 0, none⟩))) (.pointer (some ⟨k, 0, none⟩))).run P w = .ok (.pointer (some ⟨k, 0, none⟩)) w := by
      intro w; simp [hi, h6, keyThatStays, sameBits]
    have hmod : (es.modify i fun e => { e with key := .pointer (some ⟨k, 0, none⟩), val := v }).toList = es.toList.set i { e0 with key := .pointer (some ⟨k, 0, none⟩), val := v } := by
      apply List.ext_getElem? ; intro j
      rw [List.getElem?_set]
      by_cases e : i = j
      · subst e; simp [hlt, Array.getElem?_modify, ← hie]
      · simp [Array.getElem?_modify, e]
    have hkeys : (es.toList.set i { e0 with key := .pointer (some ⟨k, 0, none⟩), val := v }).map (·.key) = es.toList.map (·.key) := by
      rw [List.map_set]
      apply List.ext_getElem?; intro j
      rw [List.getElem?_set]
      by_cases e : i = j
      · subst e; simp [hlt, hie, h6]
      · simp [e]
    have hborns : (es.toList.set i { e0 with key := .pointer (some ⟨k, 0, none⟩), val := v }).map (·.born) = es.toList.map (·.born) := by
      rw [List.map_set]
      apply List.ext_getElem?; intro j
      rw [List.getElem?_set]
      by_cases e : i = j
      · subst e; simp [hlt, ← hie]
      · simp [e]
    refine ⟨es.modify i fun e => { e with key := .pointer (some ⟨k, 0, none⟩), val := v }, clock, fun w hm hla hlk => hstart w hm hla hlk _ (by simp only [hkt, Sem.run_bind, Result.andThen_ok, hs w hm]), ⟨?_, by rw [hmod, hkeys]; exact he.nodup, ?_, by rw [hmod, hborns]; exact he.borns⟩, ?_, ?_, ?_⟩
    · intro e hx
      have : e.key ∈ es.toList.map (·.key) := by rw [← hkeys, ← hmod]; exact List.mem_map.2 ⟨e, Array.mem_toList_iff.2 hx, rfl⟩
      obtain ⟨e1, g1, g2⟩ := List.mem_map.1 this
      rw [← g2]; exact he.key e1 (by simpa using g1)
    · intro e hx
      have : e.born ∈ es.toList.map (·.born) := by rw [← hborns, ← hmod]; exact List.mem_map.2 ⟨e, Array.mem_toList_iff.2 hx, rfl⟩
      obtain ⟨e1, g1, g2⟩ := List.mem_map.1 this
      rw [← g2]; exact he.born e1 (by simpa using g1)
    · intro j
      rw [hmod]
      exact esPtr_set es.toList he.nodup (by simpa using he.key) i e0 (by simpa using hi) k h6 v j
    · intro e' hx
      have hx' : e' ∈ es.toList.set i { e0 with key := .pointer (some ⟨k, 0, none⟩), val := v } := by rw [← hmod]; exact Array.mem_toList_iff.2 hx
      obtain ⟨j, hj⟩ := List.getElem?_of_mem hx'
      rw [List.getElem?_set] at hj
      by_cases e : i = j
      · simp [e] at hj
        obtain ⟨_, rfl⟩ := hj
        exact .inl ⟨rfl, rfl⟩
      · simp only [e, if_false] at hj
        refine .inr ⟨by simpa using List.mem_of_getElem? hj, ?_⟩
        intro hk
        have a1 : (es.toList.map (·.key))[j]? = some (.pointer (some ⟨k, 0, none⟩)) := by simp at hj; simp [hj, hk]
        have a2 : (es.toList.map (·.key))[i]? = some (.pointer (some ⟨k, 0, none⟩)) := by simp [hi, h6]
        exact e ((List.getElem?_inj (by simpa using hlt) he.nodup).1 (a2.trans a1.symm))
    · intro e hx hk
      obtain ⟨j, hj⟩ := List.getElem?_of_mem (show e ∈ es.toList by simpa using hx)
      have hne : i ≠ j := by
        rintro rfl
        rw [h5] at hj; injection hj with hj; subst hj; exact hk h6
      have : (es.toList.set i { e0 with key := .pointer (some ⟨k, 0, none⟩), val := v })[j]? = some e := by rw [List.getElem?_set]; simp only [hne, if_false]; exact hj
      have := List.mem_of_getElem? this
      rw [← hmod] at this; exact Array.mem_toList_iff.1 this
end maps

end Go.Proofs.Ytikigppfnhilhaa
/- What a store does to a heap in memory. -/
namespace Go.Proofs.Ytikigppfnhilhaa
open Go.RowKit Go.Instr
set_option linter.unusedVariables false
set_option linter.unusedSimpArgs false

def PB.set (y : PB) (i : Nat) (u : Wd) : PB := { y with b := { y.b with ws := y.b.ws.set i u } }
def setPB (p i : Nat) (u : Wd) (z : PB) : PB := if z.p = p then z.set i u else z
def PH.setWord (x : PH) (p i : Nat) (u : Wd) : PH := { x with yb := x.yb.map (setPB p i u), ob := x.ob.map (setPB p i u) }
theorem setPB_p (p i : Nat) (u : Wd) (z : PB) : (setPB p i u z).p = z.p := by unfold setPB PB.set; split <;> rfl
theorem setPB_arr (p i : Nat) (u : Wd) (z : PB) : (setPB p i u z).arr = z.arr := by unfold setPB PB.set; split <;> rfl
theorem setPB_at (p i : Nat) (u : Wd) (z : PB) : (setPB p i u z).b.at_ = z.b.at_ := by unfold setPB PB.set; split <;> rfl
theorem setPB_kind (p i : Nat) (u : Wd) (z : PB) : (setPB p i u z).b.kind = z.b.kind := by unfold setPB PB.set; split <;> rfl
theorem setPB_len (p i : Nat) (u : Wd) (z : PB) : (setPB p i u z).b.ws.length = z.b.ws.length := by unfold setPB PB.set; split <;> simp
theorem setPB_ptr (p i : Nat) (u : Wd) (z : PB) : (setPB p i u z).ptr = z.ptr := by unfold PB.ptr; rw [setPB_p]
theorem setPB_cells (p i : Nat) (u : Wd) (z : PB) : (setPB p i u z).cells = z.cells := by unfold PB.cells; rw [setPB_at, setPB_kind, setPB_arr, setPB_len]
theorem PH.setWord_all (x : PH) (p i : Nat) (u : Wd) : (x.setWord p i u).all = x.all.map (setPB p i u) := by simp [PH.setWord, PH.all]
theorem map_setPB {β : Type} (f : PB → β) (p i : Nat) (u : Wd) (hf : ∀ z, f (setPB p i u z) = f z) (l : List PB) : (l.map (setPB p i u)).map f = l.map f := by
  rw [List.map_map]; exact List.map_congr_left fun z _ => hf z
theorem atOf_setPB (l : List PB) (p i : Nat) (u : Wd) (k : Int) : atOf (l.map (setPB p i u)) k = atOf l k := by
  unfold atOf
  induction l with
  | nil => rfl
  | cons z l ih =>
    simp only [List.map_cons, List.find?_cons, setPB_at]
    by_cases h : z.b.at_ = k
    · simp [h, setPB_ptr]
    · simp only [h, decide_false]; exact ih
theorem PH.setWord_fp (x : PH) (p i : Nat) (u : Wd) (k : Nat) : (x.setWord p i u).fp k ↔ x.fp k := by
  unfold PH.fp
  rw [PH.setWord_all, map_setPB PB.p _ _ _ (setPB_p p i u), map_setPB PB.arr _ _ _ (setPB_arr p i u)]
  exact Iff.rfl

theorem bused_setPB (l : List PB) (p i : Nat) (u : Wd) : bused ((l.map (setPB p i u)).map PB.b) = bused (l.map PB.b) := by
  unfold bused
  rw [List.map_map, List.map_map, List.map_map]
  congr 1
  exact List.map_congr_left fun z _ => by simp [setPB_len]
theorem Dense_setPB (l : List PB) (p i : Nat) (u : Wd) (f : Int) : Dense f ((l.map (setPB p i u)).map PB.b) ↔ Dense f (l.map PB.b) := by
  induction l generalizing f with
  | nil => exact Iff.rfl
  | cons z l ih => simp only [List.map_cons, Dense, setPB_at, setPB_len, ih]
theorem PH.Ok.setWord {x : PH} (h : x.Ok) (p i : Nat) (u : Wd) : (x.setWord p i u).Ok where
  Y0 := h.Y0
  Y1 := h.Y1
  O0 := h.O0
  O1 := h.O1
  yu := by show x.yu = bused ((x.yb.map (setPB p i u)).map PB.b); rw [bused_setPB]; exact h.yu
  ou := by show x.ou = bused ((x.ob.map (setPB p i u)).map PB.b); rw [bused_setPB]; exact h.ou
  yu1 := h.yu1
  ou1 := h.ou1
  fy := h.fy
  fo := h.fo
  nil := h.nil
  dy := (Dense_setPB x.yb p i u 1).2 h.dy
  do_ := (Dense_setPB x.ob p i u _).2 h.do_
/-- The six cells of a word, written. -/
theorem flat_set (ws : List Wd) (i : Nat) (u : Wd) (hi : i < ws.length) :
    ((((((flat ws).setIfInBounds (i * 6) (.int .i64 u.tag)).setIfInBounds (i * 6 + 1) (.int .i64 u.a)).setIfInBounds (i * 6 + 2) (.int .i64 u.b)).setIfInBounds (i * 6 + 3) (.string u.text)).setIfInBounds (i * 6 + 4) (.int .i64 u.man)).setIfInBounds (i * 6 + 5) (.int .i64 u.exp) = flat (ws.set i u) := by
  apply Array.toList_inj.1
  simp only [flat, Array.toList_setIfInBounds]
  rw [flatL_set ws i u hi]
/-- The world with a word written. -/
def putWord (w : World) (arr i : Nat) (u : Wd) : World :=
  (((((w.setCell ⟨arr, i * 6, none⟩ (.int .i64 u.tag)).setCell ⟨arr, i * 6 + 1, none⟩ (.int .i64 u.a)).setCell ⟨arr, i * 6 + 2, none⟩ (.int .i64 u.b)).setCell ⟨arr, i * 6 + 3, none⟩ (.string u.text)).setCell ⟨arr, i * 6 + 4, none⟩ (.int .i64 u.man)).setCell ⟨arr, i * 6 + 5, none⟩ (.int .i64 u.exp)
theorem putWord_heap (w : World) (arr i : Nat) (u : Wd) (k : Nat) (h : k ≠ arr) : (putWord w arr i u).heap[k]? = w.heap[k]? := by
  unfold putWord
  rw [Below.heap_setCell _ _ _ _ h, Below.heap_setCell _ _ _ _ h, Below.heap_setCell _ _ _ _ h, Below.heap_setCell _ _ _ _ h, Below.heap_setCell _ _ _ _ h, Below.heap_setCell _ _ _ _ h]
theorem Keeps.putWord {S : Nat → Prop} {a b : World} (h : Keeps S a b) {arr : Nat} (hp : S arr ∨ a.heap.size ≤ arr) (i : Nat) (u : Wd) : Keeps S a (putWord b arr i u) :=
  (((((h.setCell (p := ⟨arr, i * 6, none⟩) hp _).setCell (p := ⟨arr, i * 6 + 1, none⟩) hp _).setCell (p := ⟨arr, i * 6 + 2, none⟩) hp _).setCell (p := ⟨arr, i * 6 + 3, none⟩) hp _).setCell (p := ⟨arr, i * 6 + 4, none⟩) hp _).setCell (p := ⟨arr, i * 6 + 5, none⟩) hp _
theorem Blk.word {w : World} {arr : Nat} {ws : List Wd} (h : Blk w arr (flat ws) 33) (i : Nat) (u : Wd) (hi : i < ws.length) : Blk (putWord w arr i u) arr (flat (ws.set i u)) 33 := by
  rw [← flat_set ws i u hi]
  exact (((((h.set _ _).set _ _).set _ _).set _ _).set _ _).set _ _

theorem p_ne_arr {w : World} {y z : PB} (hy : PBlk w y) (hz : PBlk w z) : y.p ≠ z.arr := hy.st.ne hz.wo (by decide)

/-- A heap with one word written. -/
theorem HRep.setWord {w w' : World} {base : Nat} {x : PH} (h : HRep w base x) {y : PB} (hy : y ∈ x.all) (i : Nat) (u : Wd)
    (hb : Blk w' y.arr (flat (y.b.ws.set i u)) 33) (hk : ∀ k, x.fp k → k ≠ y.arr → w'.heap[k]? = w.heap[k]?) : HRep w' base (x.setWord y.p i u) := by
  have hpy := h.pbs y hy
  have hne : ∀ c t, Blk w y.arr c t → t = 33 := by
    intro c t hc
    have h1 := hpy.wo; unfold Blk at h1 hc; rw [h1] at hc; injection hc with hc; injection hc with _ hc; exact hc.symm
  have hhp : x.hp ≠ y.arr := h.blk.ne hpy.wo (by decide)
  have hrow : ∀ v n xs, w.ownsRow base 89 1 v n xs → ∀ k, v.ownBlock = some k → k ≠ y.arr := by
    intro v n xs hv k hk' e
    rcases hv.2 with ⟨hv, _⟩ | ⟨g, cap, cur, hv, _, hg, _⟩
    · rw [hv] at hk'; cases hk'
    · rw [hv] at hk'; injection hk' with hk'; subst hk'; subst e
      have := hne _ _ hg; exact absurd this (by decide)
  have hmap : ∀ v es c, MapV w v es c → ∀ k, v = .map (some k) → k ≠ y.arr := by
    rintro v es c (⟨rfl, _⟩ | ⟨m, rfl, hm⟩) k e
    · cases e
    · injection e with e; injection e with e; subst e
      rintro rfl
      have h1 := hpy.wo; unfold Blk at h1; rw [h1] at hm; cases hm
  have hall := PH.setWord_all x y.p i u
  refine { blk := ?_, yrow := ?_, orow := ?_, rows := h.rows, amap := ?_, rmap := ?_, maps := h.maps, pbs := ?_, ps := ?_, arrs := ?_, base_ := ?_, ok := h.ok.setWord y.p i u }
  · exact (hk _ (.inl rfl) hhp).trans h.blk
  · show w'.ownsRow base 89 1 x.yv (x.yb.map (setPB y.p i u)).length ((x.yb.map (setPB y.p i u)).map PB.ptr)
    rw [map_setPB PB.ptr _ _ _ (setPB_ptr y.p i u), List.length_map]
    exact ownsRow_keeps h.yrow fun k e => hk k (.inr (.inl e.symm)) (hrow _ _ _ h.yrow k e)
  · show w'.ownsRow base 89 1 x.ov (x.ob.map (setPB y.p i u)).length ((x.ob.map (setPB y.p i u)).map PB.ptr)
    rw [map_setPB PB.ptr _ _ _ (setPB_ptr y.p i u), List.length_map]
    exact ownsRow_keeps h.orow fun k e => hk k (.inr (.inr (.inl e.symm))) (hrow _ _ _ h.orow k e)
  · obtain ⟨es, c, hm, he, hg⟩ := h.amap
    exact ⟨es, c, hm.keeps fun k e => hk k (.inr (.inr (.inr (.inl e)))) (hmap _ _ _ hm k e), he, fun k => by rw [hall, atOf_setPB]; exact hg k⟩
  · obtain ⟨es, c, hm, he, hg⟩ := h.rmap
    exact ⟨es, c, hm.keeps fun k e => hk k (.inr (.inr (.inr (.inr (.inl e))))) (hmap _ _ _ hm k e), he, hg⟩
  · intro z hz
    rw [hall] at hz
    obtain ⟨z0, hz0, rfl⟩ := List.mem_map.1 hz
    have hz1 := h.pbs z0 hz0
    have hp1 : x.fp z0.p := .inr (.inr (.inr (.inr (.inr (.inl (List.mem_map.2 ⟨z0, hz0, rfl⟩))))))
    have ha1 : x.fp z0.arr := .inr (.inr (.inr (.inr (.inr (.inr (List.mem_map.2 ⟨z0, hz0, rfl⟩))))))
    refine ⟨?_, ?_⟩
    · rw [setPB_p, setPB_cells]; exact (hk _ hp1 (p_ne_arr hz1 hpy)).trans hz1.st
    · rw [setPB_arr]
      by_cases e : z0.p = y.p
      · have : z0 = y := inj_on_of_nodup_map h.ps hz0 hy e
        subst this
        simp only [setPB, if_pos rfl, PB.set]; exact hb
      · have hne2 : z0.arr ≠ y.arr := fun e2 => e (by rw [inj_on_of_nodup_map h.arrs hz0 hy e2])
        simp only [setPB, if_neg e]
        exact (hk _ ha1 hne2).trans hz1.wo
  · rw [hall, map_setPB PB.p _ _ _ (setPB_p y.p i u)]; exact h.ps
  · rw [hall, map_setPB PB.arr _ _ _ (setPB_arr y.p i u)]; exact h.arrs
  · intro k hk'; exact h.base_ k ((PH.setWord_fp x y.p i u k).1 hk')

/-! ### The remembered ones -/
def insR (n : Int) : List Int → List Int
  | [] => [n]
  | m :: l => if m < n then m :: insR n l else if m = n then m :: l else n :: m :: l
theorem mem_insR (n k : Int) (l : List Int) : k ∈ insR n l ↔ k = n ∨ k ∈ l := by
  induction l with
  | nil => simp [insR]
  | cons m l ih =>
    simp only [insR]
    split
    · simp only [List.mem_cons, ih]; constructor <;> (rintro (h | h | h) <;> simp [h])
    · split
      · rename_i h; subst h; simp only [List.mem_cons]; constructor
        · rintro (h | h) <;> simp [h]
        · rintro (h | h | h) <;> simp [h]
      · simp [List.mem_cons]

/-- A number more is remembered. -/
theorem HRep.remember {w : World} {base : Nat} {x : PH} (h : HRep w base x) {r : Nat} (hr : x.rv = .map (some r)) {es : Array MapEntry} {c : Nat} (he : IntEs es c) {k : Int} {es0 : Array MapEntry} {c0 : Nat} (hm : w.heap[r]? = some (.map es0 c0))
    (hg0 : ∀ j, esGet es0.toList j = if j ∈ x.R then some (.bool true) else none)
    (hg : ∀ j, esGet es.toList j = if j = k then some (.bool true) else esGet es0.toList j) : HRep (w.putObj r (.map es c)) base { x with R := insR k x.R } := by
  have hlt : r < w.heap.size := (Array.getElem?_eq_some_iff.1 hm).1
  have hother : ∀ j, j ≠ r → (w.putObj r (.map es c)).heap[j]? = w.heap[j]? := fun j hj => by
    simp only [World.putObj]; rw [Array.getElem?_setIfInBounds_ne (Ne.symm hj)]
  have hself : (w.putObj r (.map es c)).heap[r]? = some (.map es c) := by
    simp only [World.putObj]; rw [Array.getElem?_setIfInBounds_self_of_lt hlt]
  have hcells : ∀ b cs t, Blk w b cs t → Blk (w.putObj r (.map es c)) b cs t := fun b cs t hb => by
    unfold Blk at *
    rw [hother b (by rintro rfl; rw [hm] at hb; cases hb)]; exact hb
  have hrow : ∀ v n xs, w.ownsRow base 89 1 v n xs → (w.putObj r (.map es c)).ownsRow base 89 1 v n xs := fun v n xs hv => by
    refine ownsRow_keeps hv fun j hj => hother j ?_
    rintro rfl
    rcases hv.2 with ⟨hv, _⟩ | ⟨g, cap, cur, hv, _, hg, _⟩
    · rw [hv] at hj; cases hj
    · rw [hv] at hj; injection hj with hj; subst hj; rw [hm] at hg; cases hg
  refine { blk := hcells _ _ _ h.blk, yrow := hrow _ _ _ h.yrow, orow := hrow _ _ _ h.orow, rows := h.rows, amap := ?_, rmap := ?_, maps := h.maps, pbs := fun y hy => ⟨hcells _ _ _ (h.pbs y hy).st, hcells _ _ _ (h.pbs y hy).wo⟩, ps := h.ps, arrs := h.arrs, base_ := h.base_, ok := ⟨h.ok.Y0, h.ok.Y1, h.ok.O0, h.ok.O1, h.ok.yu, h.ok.ou, h.ok.yu1, h.ok.ou1, h.ok.fy, h.ok.fo, h.ok.nil, h.ok.dy, h.ok.do_⟩ }
  · obtain ⟨e1, c1, hm1, he1, hg1⟩ := h.amap
    exact ⟨e1, c1, hm1.keeps fun j hj => hother j (by rintro rfl; exact h.maps _ hj hr), he1, hg1⟩
  · refine ⟨es, c, .inr ⟨r, hr, hself⟩, he, fun j => ?_⟩
    rw [hg j, hg0 j]
    by_cases e : j = k
    · simp [e, mem_insR]
    · simp [e, mem_insR]
end Go.Proofs.Ytikigppfnhilhaa
