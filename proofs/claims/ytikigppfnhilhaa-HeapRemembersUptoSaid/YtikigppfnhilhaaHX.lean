/- reached: the blocks that are reached from words. -/
import Derived.Test.YtikigppfnhilhaaHV
import Derived.Test.YtikigppfnhilhaaHM
import Derived.Test.YtikigppfnhilhaaHS2
import Derived.WalkSmall
import Derived.Carry
namespace Go.Proofs.Ytikigppfnhilhaa
open Go.RowKit Go.Instr
set_option linter.unusedVariables false
set_option linter.unusedSimpArgs false

/-- What is reached from words, over blocks that are wanted. -/
inductive Rch (F : Int → Option PB) (p : PB → Bool) (from_ : List Wd) : PB → Prop
  | root {u : Wd} {y : PB} : u ∈ from_ → F (refW u) = some y → p y = true → Rch F p from_ y
  | step {z : PB} {u : Wd} {y : PB} : Rch F p from_ z → u ∈ z.b.ws → F (refW u) = some y → p y = true → Rch F p from_ y

/-- The work under way: K has been taken, ws is to be done. -/
structure RS (x : PH) (p : PB → Bool) (from_ : List Wd) (K : List PB) (ws : List Wd) : Prop where
  sub : ∀ y ∈ K, y ∈ x.all ∧ Rch x.find p from_ y
  nd : (K.map PB.p).Nodup
  src : ∀ u ∈ ws, u ∈ from_ ∨ ∃ z ∈ K, u ∈ z.b.ws
  cl : ∀ u, (u ∈ from_ ∨ ∃ z ∈ K, u ∈ z.b.ws) → ∀ y, x.find (refW u) = some y → p y = true → u ∈ ws ∨ y ∈ K
  len : ws.length ≤ from_.length + K.length * 100000
theorem RS.start (x : PH) (p : PB → Bool) (from_ : List Wd) : RS x p from_ [] from_ :=
  ⟨by simp, by simp, fun u hu => .inl hu, fun u hu y _ _ => .inl (by rcases hu with h | ⟨z, hz, _⟩; exact h; cases hz), by simp⟩
theorem RS.skip {x : PH} {p : PB → Bool} {from_ : List Wd} {K : List PB} {ws : List Wd} {u : Wd} (h : RS x p from_ K (ws ++ [u])) (hs : ∀ y, x.find (refW u) = some y → p y = true → y ∈ K) : RS x p from_ K ws :=
  ⟨h.sub, h.nd, fun v hv => h.src v (by simp [hv]), fun v hv y hf hp => by
    rcases h.cl v hv y hf hp with h1 | h1
    · rcases List.mem_append.1 h1 with h1 | h1
      · exact .inl h1
      · simp at h1; subst h1; exact .inr (hs y hf hp)
    · exact .inr h1, by have := h.len; simp at this; omega⟩
theorem RS.add {x : PH} {p : PB → Bool} {from_ : List Wd} {K : List PB} {ws : List Wd} {u : Wd} (h : RS x p from_ K (ws ++ [u])) {y : PB} (hf : x.find (refW u) = some y) (hp : p y = true) (hn : y.p ∉ K.map PB.p) (hl : y.b.ws.length ≤ 100000) : RS x p from_ (K ++ [y]) (ws ++ y.b.ws) where
  sub := fun z hz => by
    rcases List.mem_append.1 hz with hz | hz
    · exact h.sub z hz
    · simp at hz; subst hz
      refine ⟨(PH.find_mem hf).1, ?_⟩
      rcases h.src u (by simp) with h1 | ⟨z, hz, h1⟩
      · exact .root h1 hf hp
      · exact .step (h.sub z hz).2 h1 hf hp
  nd := by
    rw [List.map_append, List.nodup_append]
    refine ⟨h.nd, by simp, ?_⟩
    intro a ha b hb e
    simp at hb; subst hb; subst e; exact hn ha
  src := fun v hv => by
    rcases List.mem_append.1 hv with hv | hv
    · rcases h.src v (by simp [hv]) with h1 | ⟨z, hz, h1⟩
      · exact .inl h1
      · exact .inr ⟨z, by simp [hz], h1⟩
    · exact .inr ⟨y, by simp, hv⟩
  cl := fun v hv z hfz hpz => by
    have old : (v ∈ from_ ∨ ∃ z ∈ K, v ∈ z.b.ws) → v ∈ ws ++ y.b.ws ∨ z ∈ K ++ [y] := fun hv => by
      rcases h.cl v hv z hfz hpz with h1 | h1
      · rcases List.mem_append.1 h1 with h1 | h1
        · exact .inl (by simp [h1])
        · simp at h1; subst h1
          rw [hf] at hfz; injection hfz with e; subst e; exact .inr (by simp)
      · exact .inr (by simp [h1])
    rcases hv with h1 | ⟨q, hq, h1⟩
    · exact old (.inl h1)
    · rcases List.mem_append.1 hq with hq | hq
      · exact old (.inr ⟨q, hq, h1⟩)
      · simp at hq; subst hq; exact .inl (by simp [h1])
  len := by have := h.len; simp at this ⊢; omega
theorem RS.done {x : PH} {p : PB → Bool} {from_ : List Wd} {K : List PB} (h : RS x p from_ K []) (y : PB) : y ∈ K ↔ Rch x.find p from_ y := by
  refine ⟨fun hy => (h.sub y hy).2, fun hy => ?_⟩
  induction hy with
  | root hu hf hp => exact (h.cl _ (.inl hu) _ hf hp).resolve_left (by simp)
  | step hz hu hf hp ih => exact (h.cl _ (.inr ⟨_, ih, hu⟩) _ hf hp).resolve_left (by simp)

theorem nodup_length {a b : List Nat} (hn : a.Nodup) (hs : ∀ k ∈ a, k ∈ b) : a.length ≤ b.length := by
  induction a generalizing b with
  | nil => simp
  | cons k a ih =>
    obtain ⟨h1, h2⟩ := List.nodup_cons.1 hn
    have hk := hs k (by simp)
    have := ih h2 (b := b.erase k) fun j hj => (List.mem_erase_of_ne (by rintro rfl; exact h1 hj)).2 (hs j (by simp [hj]))
    rw [List.length_erase_of_mem hk] at this
    have : 0 < b.length := List.length_pos_of_mem hk
    simp; omega
theorem RS.count {x : PH} {p : PB → Bool} {from_ : List Wd} {K : List PB} {ws : List Wd} (h : RS x p from_ K ws) : K.length ≤ x.all.length := by
  have := nodup_length h.nd (b := x.all.map PB.p) fun k hk => by
    obtain ⟨y, hy, rfl⟩ := List.mem_map.1 hk
    exact List.mem_map_of_mem (h.sub y hy).1
  simpa using this
theorem PH.Ok.all_len {x : PH} (h : x.Ok) : x.all.length ≤ 200000 := by
  have h1 := bused_len (x.yb.map PB.b); rw [List.length_map, ← h.yu] at h1; have := h.yu1; have := h.Y1
  have h2 := bused_len (x.ob.map PB.b); rw [List.length_map, ← h.ou] at h2; have := h.ou1; have := h.O1
  simp only [PH.all, List.length_append]; omega

/-- The map of the blocks that have been taken. -/
def mapEs (w : World) (m : Nat) : List MapEntry := match w.heap[m]? with | some (.map es _) => es.toList | _ => []
def left (x : PH) (w : World) (m : Nat) : Nat := x.all.countP fun y => (esPtr (mapEs w m) y.p).isNone
theorem countP_lt {α : Type} {l : List α} {q q' : α → Bool} (h : ∀ z ∈ l, q' z = true → q z = true) {y : α} (hy : y ∈ l) (h1 : q y = true) (h2 : q' y = false) : l.countP q' < l.countP q := by
  induction l with
  | nil => cases hy
  | cons a l ih =>
    have hle : l.countP q' ≤ l.countP q := List.countP_mono_left fun z hz => h z (by simp [hz])
    simp only [List.countP_cons]
    rcases List.mem_cons.1 hy with rfl | hy
    · simp [h1, h2]; omega
    · have := ih (fun z hz => h z (by simp [hz])) hy
      have ha := h a (by simp)
      cases hq : q' a
      · simp; split <;> omega
      · simp [ha hq]; omega
structure KMap (w : World) (m : Nat) (K : List PB) : Prop where
  ex : ∃ es ck, w.heap[m]? = some (.map es ck) ∧ PtrEs es ck ∧ ∀ k, esPtr es.toList k = if k ∈ K.map PB.p then some (.bool true) else none
theorem KMap.keep {w w' : World} {m : Nat} {K : List PB} (h : KMap w m K) (hk : w'.heap[m]? = w.heap[m]?) : KMap w' m K := by
  obtain ⟨es, ck, h1, h2⟩ := h.ex; exact ⟨es, ck, hk.trans h1, h2⟩
theorem esPtr_of_mem {es : List MapEntry} {e : MapEntry} (he : e ∈ es) {k : Nat} (hk : e.key = .pointer (some ⟨k, 0, none⟩)) : esPtr es k ≠ none := by
  induction es with
  | nil => cases he
  | cons a es ih =>
    simp only [esPtr]
    rcases List.mem_cons.1 he with rfl | he
    · rw [hk]; simp
    · split
      · split
        · simp
        · exact ih he
      · exact ih he
theorem esPtr_lies' {w : World} {x : PH} (hlie : ∀ y ∈ x.all, ∃ c t, Blk w y.p c t) {es : Array MapEntry} {K : List PB} (hs : ∀ y ∈ K, y ∈ x.all) (he : ∀ k, esPtr es.toList k = if k ∈ K.map PB.p then some (.bool true) else none) : LiesAll w es := by
  intro e hm k hk
  have := esPtr_of_mem (es := es.toList) (by simpa using hm) hk
  rw [he k] at this
  split at this
  · rename_i hk2
    obtain ⟨y, hy, rfl⟩ := List.mem_map.1 hk2
    exact hlie y (hs y hy)
  · exact (this rfl).elim
theorem esPtr_lies {w : World} {base : Nat} {x : PH} (h : HRep w base x) {es : Array MapEntry} {K : List PB} (hs : ∀ y ∈ K, y ∈ x.all) (he : ∀ k, esPtr es.toList k = if k ∈ K.map PB.p then some (.bool true) else none) : LiesAll w es :=
  esPtr_lies' (fun y hy => ⟨_, _, (h.pbs y hy).st⟩) hs he

theorem info_blkS : (Try.prog.info? 91).map (fun i => i.size) = some 3 := by kernel_rfl
theorem zero_bool (w : World) : (zeroValue 4).run Try.prog w = .ok (.bool false) w := by kernel_rfl
theorem KMap.lookup' {w : World} {x : PH} (hlie : ∀ y ∈ x.all, ∃ c t, Blk w y.p c t) {m : Nat} {K : List PB} (hm : KMap w m K) (hs : ∀ y ∈ K, y ∈ x.all) {y : PB} (hy : y ∈ x.all) :
    (Instr.lookup 101 (.map (some m)) (.pointer (some ⟨y.p, 0, none⟩)) false).run Try.prog w = .ok (.bool (decide (y.p ∈ K.map PB.p))) w := by
  obtain ⟨es, ck, h1, h2, h3⟩ := hm.ex
  obtain ⟨i, hi⟩ : ∃ i, Try.prog.info? 91 = some i := by
    cases hi : Try.prog.info? 91 with
    | none => have := info_blkS; rw [hi] at this; cases this
    | some i => exact ⟨i, rfl⟩
  have hsz : i.size ≠ 0 := by have := info_blkS; rw [hi] at this; simp at this; omega
  rw [run_lookup_ptr Try.underlying101 Try.underlying89 hi hsz zero_bool h1 h2.key (esPtr_lies' hlie hs h3) y.p (hlie y hy), h3]
  by_cases e : y.p ∈ K.map PB.p
  · rw [if_pos e]; simp [e]
  · rw [if_neg e]; simp [e]
theorem KMap.lookup {w : World} {base : Nat} {x : PH} (h : HRep w base x) {m : Nat} {K : List PB} (hm : KMap w m K) (hs : ∀ y ∈ K, y ∈ x.all) {y : PB} (hy : y ∈ x.all) :
    (Instr.lookup 101 (.map (some m)) (.pointer (some ⟨y.p, 0, none⟩)) false).run Try.prog w = .ok (.bool (decide (y.p ∈ K.map PB.p))) w :=
  KMap.lookup' (fun y hy => ⟨_, _, (h.pbs y hy).st⟩) hm hs hy
theorem KMap.update {w : World} {base : Nat} {x : PH} (h : HRep w base x) {m : Nat} {K : List PB} (hm : KMap w m K) (hs : ∀ y ∈ K, y ∈ x.all) {y : PB} (hy : y ∈ x.all) (hn : y.p ∉ K.map PB.p) :
    ∃ o w', (Instr.mapUpdate 101 (.map (some m)) (.pointer (some ⟨y.p, 0, none⟩)) (.bool true)).run Try.prog w = .ok () w' ∧ w' = w.putObj m o ∧ KMap w' m (K ++ [y]) ∧ left x w' m < left x w m := by
  obtain ⟨es, ck, h1, h2, h3⟩ := hm.ex
  obtain ⟨i, hi⟩ : ∃ i, Try.prog.info? 91 = some i := by
    cases hi : Try.prog.info? 91 with
    | none => have := info_blkS; rw [hi] at this; cases this
    | some i => exact ⟨i, rfl⟩
  have hsz : i.size ≠ 0 := by have := info_blkS; rw [hi] at this; simp at this; omega
  obtain ⟨es', c', hrun, he', hg', -, -⟩ := run_mapUpdate_ptr (P := Try.prog) Try.underlying101 Try.underlying89 hi hsz m h2 y.p (.bool true)
  have hm2 : (w.putObj m (.map es' c')).heap[m]? = some (.map es' c') := World.putObj_heap_same (Array.getElem?_eq_some_iff.1 h1).1
  have hg : ∀ k, esPtr es'.toList k = if k ∈ (K ++ [y]).map PB.p then some (.bool true) else none := fun k => by
    rw [hg' k, h3 k]
    by_cases e : k = y.p
    · subst e; simp
    · simp [e]
  refine ⟨_, _, hrun w h1 (esPtr_lies h hs h3) ⟨_, _, (h.pbs y hy).st⟩, rfl, ⟨es', c', hm2, he', hg⟩, ?_⟩
  unfold left
  have e1 : mapEs (w.putObj m (.map es' c')) m = es'.toList := by unfold mapEs; rw [hm2]
  have e2 : mapEs w m = es.toList := by unfold mapEs; rw [h1]
  rw [e1, e2]
  refine countP_lt (y := y) ?_ hy ?_ ?_
  · intro z hz hq
    rw [hg] at hq
    rw [h3]
    by_cases e : z.p ∈ K.map PB.p
    · have : z.p ∈ (K ++ [y]).map PB.p := by rw [List.map_append]; exact List.mem_append.2 (.inl e)
      rw [if_pos this] at hq; cases hq
    · rw [if_neg e]; rfl
  · rw [h3, if_neg hn]; rfl
  · rw [hg, if_pos (by simp)]; rfl
end Go.Proofs.Ytikigppfnhilhaa
