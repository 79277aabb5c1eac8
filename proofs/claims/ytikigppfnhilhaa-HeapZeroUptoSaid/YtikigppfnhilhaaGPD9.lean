/- reached: the blocks that are reached from words. reached: the walk. -/
import Derived.Test.YtikigppfnhilhaaGPD6
import Derived.Test.YtikigppfnhilhaaGPD7
import Derived.Test.YtikigppfnhilhaaGPD8
import Derived.WalkSmall
import Derived.Carry
import Derived.WalkMore
import Derived.Test.YtikigppfnhilhaaGPD5
/- reached: the blocks that are reached from words. -/
namespace Go.Proofs.Ytikigppfnhilhaa
open Go.RowKit Go.Instr
set_option linter.unusedVariables false
set_option linter.unusedSimpArgs false

/-- What is reached from words, over blocks that are wanted. -/
inductive Rch (F : Int → Option PB) (p : PB → Bool) (from_ : List Wd) : PB → Prop
  | root {u : Wd} {y : PB} : u ∈ from_ → F (refW u) = some y → p y = true → Rch F p from_ y
  | step {z : PB} {u : Wd} {y : PB} : Rch F p from_ z → u ∈ z.b.ws → F (refW u) = some y → p y = true → Rch F p from_ y

/-- The work under way: K has been taken, ws is to be done. -/
structure RS (x : PH) (p : PB → Bool) (from_ : List Wd) (K : List PB) (ws : List Wd) : Prop where
  sub : ∀ y ∈ K, y ∈ x.all ∧ Rch x.find p from_ y
  nd : (K.map PB.p).Nodup
  src : ∀ u ∈ ws, u ∈ from_ ∨ ∃ z ∈ K, u ∈ z.b.ws
  cl : ∀ u, (u ∈ from_ ∨ ∃ z ∈ K, u ∈ z.b.ws) → ∀ y, x.find (refW u) = some y → p y = true → u ∈ ws ∨ y ∈ K
  len : ws.length ≤ from_.length + K.length * 100000
theorem RS.start (x : PH) (p : PB → Bool) (from_ : List Wd) : RS x p from_ [] from_ :=
  ⟨by simp, by simp, fun u hu => .inl hu, fun u hu y _ _ => .inl (by rcases hu with h | ⟨z, hz, _⟩; exact h; cases hz), by simp⟩
theorem RS.skip {x : PH} {p : PB → Bool} {from_ : List Wd} {K : List PB} {ws : List Wd} {u : Wd} (h : RS x p from_ K (ws ++ [u])) (hs : ∀ y, x.find (refW u) = some y → p y = true → y ∈ K) : RS x p from_ K ws :=
  ⟨h.sub, h.nd, fun v hv => h.src v (by simp [hv]), fun v hv y hf hp => by
    rcases h.cl v hv y hf hp with h1 | h1
    · rcases List.mem_append.1 h1 with h1 | h1
      · exact .inl h1
      · simp at h1; subst h1; exact .inr (hs y hf hp)
    · exact .inr h1, by have := h.len; simp at this; omega⟩
theorem RS.add {x : PH} {p : PB → Bool} {from_ : List Wd} {K : List PB} {ws : List Wd} {u : Wd} (h : RS x p from_ K (ws ++ [u])) {y : PB} (hf : x.find (refW u) = some y) (hp : p y = true) (hn : y.p ∉ K.map PB.p) (hl : y.b.ws.length ≤ 100000) : RS x p from_ (K ++ [y]) (ws ++ y.b.ws) where
  sub := fun z hz => by
    rcases List.mem_append.1 hz with hz | hz
    · exact h.sub z hz
    · simp at hz; subst hz
      refine ⟨(PH.find_mem hf).1, ?_⟩
      rcases h.src u (by simp) with h1 | ⟨z, hz, h1⟩
      · exact .root h1 hf hp
      · exact .step (h.sub z hz).2 h1 hf hp
  nd := by
    rw [List.map_append, List.nodup_append]
    refine ⟨h.nd, by simp, ?_⟩
    intro a ha b hb e
    simp at hb; subst hb; subst e; exact hn ha
  src := fun v hv => by
    rcases List.mem_append.1 hv with hv | hv
    · rcases h.src v (by simp [hv]) with h1 | ⟨z, hz, h1⟩
      · exact .inl h1
      · exact .inr ⟨z, by simp [hz], h1⟩
    · exact .inr ⟨y, by simp, hv⟩
  cl := fun v hv z hfz hpz => by
    have old : (v ∈ from_ ∨ ∃ z ∈ K, v ∈ z.b.ws) → v ∈ ws ++ y.b.ws ∨ z ∈ K ++ [y] := fun hv => by
      rcases h.cl v hv z hfz hpz with h1 | h1
      · rcases List.mem_append.1 h1 with h1 | h1
        · exact .inl (by simp [h1])
        · simp at h1; subst h1
          rw [hf] at hfz; injection hfz with e; subst e; exact .inr (by simp)
      · exact .inr (by simp [h1])
    rcases hv with h1 | ⟨q, hq, h1⟩
    · exact old (.inl h1)
    · rcases List.mem_append.1 hq with hq | hq
      · exact old (.inr ⟨q, hq, h1⟩)
      · simp at hq; subst hq; exact .inl (by simp [h1])
  len := by have := h.len; simp at this ⊢; omega
theorem RS.done {x : PH} {p : PB → Bool} {from_ : List Wd} {K : List PB} (h : RS x p from_ K []) (y : PB) : y ∈ K ↔ Rch x.find p from_ y := by
  refine ⟨fun hy => (h.sub y hy).2, fun hy => ?_⟩
  induction hy with
  | root hu hf hp => exact (h.cl _ (.inl hu) _ hf hp).resolve_left (by simp)
  | step hz hu hf hp ih => exact (h.cl _ (.inr ⟨_, ih, hu⟩) _ hf hp).resolve_left (by simp)

theorem nodup_length {a b : List Nat} (hn : a.Nodup) (hs : ∀ k ∈ a, k ∈ b) : a.length ≤ b.length := by
  induction a generalizing b with
  | nil => simp
  | cons k a ih =>
    obtain ⟨h1, h2⟩ := List.nodup_cons.1 hn
    have hk := hs k (by simp)
    have := ih h2 (b := b.erase k) fun j hj => (List.mem_erase_of_ne (by rintro rfl; exact h1 hj)).2 (hs j (by simp [hj]))
    rw [List.length_erase_of_mem hk] at this
    have : 0 < b.length := List.length_pos_of_mem hk
    simp; omega
theorem RS.count {x : PH} {p : PB → Bool} {from_ : List Wd} {K : List PB} {ws : List Wd} (h : RS x p from_ K ws) : K.length ≤ x.all.length := by
  have := nodup_length h.nd (b := x.all.map PB.p) fun k hk => by
    obtain ⟨y, hy, rfl⟩ := List.mem_map.1 hk
    exact List.mem_map_of_mem (h.sub y hy).1
  simpa using this
theorem PH.Ok.all_len {x : PH} (h : x.Ok) : x.all.length ≤ 200000 := by
  have h1 := bused_len (x.yb.map PB.b); rw [List.length_map, ← h.yu] at h1; have := h.yu1; have := h.Y1
  have h2 := bused_len (x.ob.map PB.b); rw [List.length_map, ← h.ou] at h2; have := h.ou1; have := h.O1
  simp only [PH.all, List.length_append]; omega

/-- The map of the blocks that have been taken. -/
def mapEs (w : World) (m : Nat) : List MapEntry := match w.heap[m]? with | some (.map es _) => es.toList | _ => []
def left (x : PH) (w : World) (m : Nat) : Nat := x.all.countP fun y => (esPtr (mapEs w m) y.p).isNone
theorem countP_lt {α : Type} {l : List α} {q q' : α → Bool} (h : ∀ z ∈ l, q' z = true → q z = true) {y : α} (hy : y ∈ l) (h1 : q y = true) (h2 : q' y = false) : l.countP q' < l.countP q := by
  induction l with
  | nil => cases hy
  | cons a l ih =>
    have hle : l.countP q' ≤ l.countP q := List.countP_mono_left fun z hz => h z (by simp [hz])
    simp only [List.countP_cons]
    rcases List.mem_cons.1 hy with rfl | hy
    · simp [h1, h2]; omega
    · have := ih (fun z hz => h z (by simp [hz])) hy
      have ha := h a (by simp)
      cases hq : q' a
      · simp; split <;> omega
      · simp [ha hq]; omega
structure KMap (w : World) (m : Nat) (K : List PB) : Prop where
  ex : ∃ es ck, w.heap[m]? = some (.map es ck) ∧ PtrEs es ck ∧ ∀ k, esPtr es.toList k = if k ∈ K.map PB.p then some (.bool true) else none
theorem KMap.keep {w w' : World} {m : Nat} {K : List PB} (h : KMap w m K) (hk : w'.heap[m]? = w.heap[m]?) : KMap w' m K := by
  obtain ⟨es, ck, h1, h2⟩ := h.ex; exact ⟨es, ck, hk.trans h1, h2⟩
theorem esPtr_of_mem {es : List MapEntry} {e : MapEntry} (he : e ∈ es) {k : Nat} (hk : e.key = .pointer (some ⟨k, 0, none⟩)) : esPtr es k ≠ none := by
  induction es with
  | nil => cases he
  | cons a es ih =>
    simp only [esPtr]
    rcases List.mem_cons.1 he with rfl | he
    · rw [hk]; simp
    · split
      · split
        · simp
        · exact ih he
      · exact ih he
theorem esPtr_lies' {w : World} {x : PH} (hlie : ∀ y ∈ x.all, ∃ c t, Blk w y.p c t) {es : Array MapEntry} {K : List PB} (hs : ∀ y ∈ K, y ∈ x.all) (he : ∀ k, esPtr es.toList k = if k ∈ K.map PB.p then some (.bool true) else none) : LiesAll w es := by
  intro e hm k hk
  have := esPtr_of_mem (es := es.toList) (by simpa using hm) hk
  rw [he k] at this
  split at this
  · rename_i hk2
    obtain ⟨y, hy, rfl⟩ := List.mem_map.1 hk2
    exact hlie y (hs y hy)
  · exact (this rfl).elim
theorem esPtr_lies {w : World} {base : Nat} {x : PH} (h : HRep w base x) {es : Array MapEntry} {K : List PB} (hs : ∀ y ∈ K, y ∈ x.all) (he : ∀ k, esPtr es.toList k = if k ∈ K.map PB.p then some (.bool true) else none) : LiesAll w es :=
  esPtr_lies' (fun y hy => ⟨_, _, (h.pbs y hy).st⟩) hs he

theorem info_blkS : (Try.prog.info? 91).map (fun i => i.size) = some 3 := by kernel_rfl
theorem zero_bool (w : World) : (zeroValue 4).run Try.prog w = .ok (.bool false) w := by kernel_rfl
theorem KMap.lookup' {w : World} {x : PH} (hlie : ∀ y ∈ x.all, ∃ c t, Blk w y.p c t) {m : Nat} {K : List PB} (hm : KMap w m K) (hs : ∀ y ∈ K, y ∈ x.all) {y : PB} (hy : y ∈ x.all) :
    (Instr.lookup 101 (.map (some m)) (.pointer (some ⟨y.p, 0, none⟩)) false).run Try.prog w = .ok (.bool (decide (y.p ∈ K.map PB.p))) w := by
  obtain ⟨es, ck, h1, h2, h3⟩ := hm.ex
  obtain ⟨i, hi⟩ : ∃ i, Try.prog.info? 91 = some i := by
    cases hi : Try.prog.info? 91 with
    | none => have := info_blkS; rw [hi] at this; cases this
    | some i => exact ⟨i, rfl⟩
  have hsz : i.size ≠ 0 := by have := info_blkS; rw [hi] at this; simp at this; omega
  rw [run_lookup_ptr Try.underlying101 Try.underlying89 hi hsz zero_bool h1 h2.key (esPtr_lies' hlie hs h3) y.p (hlie y hy), h3]
  by_cases e : y.p ∈ K.map PB.p
  · rw [if_pos e]; simp [e]
  · rw [if_neg e]; simp [e]
theorem KMap.lookup {w : World} {base : Nat} {x : PH} (h : HRep w base x) {m : Nat} {K : List PB} (hm : KMap w m K) (hs : ∀ y ∈ K, y ∈ x.all) {y : PB} (hy : y ∈ x.all) :
    (Instr.lookup 101 (.map (some m)) (.pointer (some ⟨y.p, 0, none⟩)) false).run Try.prog w = .ok (.bool (decide (y.p ∈ K.map PB.p))) w :=
  KMap.lookup' (fun y hy => ⟨_, _, (h.pbs y hy).st⟩) hm hs hy
theorem KMap.update {w : World} {base : Nat} {x : PH} (h : HRep w base x) {m : Nat} {K : List PB} (hm : KMap w m K) (hs : ∀ y ∈ K, y ∈ x.all) {y : PB} (hy : y ∈ x.all) (hn : y.p ∉ K.map PB.p) :
    ∃ o w', (Instr.mapUpdate 101 (.map (some m)) (.pointer (some ⟨y.p, 0, none⟩)) (.bool true)).run Try.prog w = .ok () w' ∧ w' = w.putObj m o ∧ KMap w' m (K ++ [y]) ∧ left x w' m < left x w m := by
  obtain ⟨es, ck, h1, h2, h3⟩ := hm.ex
  obtain ⟨i, hi⟩ : ∃ i, Try.prog.info? 91 = some i := by
    cases hi : Try.prog.info? 91 with
    | none => have := info_blkS; rw [hi] at this; cases this
    | some i => exact ⟨i, rfl⟩
  have hsz : i.size ≠ 0 := by have := info_blkS; rw [hi] at this; simp at this; omega
  obtain ⟨es', c', hrun, he', hg', -, -⟩ := run_mapUpdate_ptr (P := Try.prog) Try.underlying101 Try.underlying89 hi hsz m h2 y.p (.bool true)
  have hm2 : (w.putObj m (.map es' c')).heap[m]? = some (.map es' c') := World.putObj_heap_same (Array.getElem?_eq_some_iff.1 h1).1
  have hg : ∀ k, esPtr es'.toList k = if k ∈ (K ++ [y]).map PB.p then some (.bool true) else none := fun k => by
    rw [hg' k, h3 k]
    by_cases e : k = y.p
    · subst e; simp
    · simp [e]
  refine ⟨_, _, hrun w h1 (esPtr_lies h hs h3) ⟨_, _, (h.pbs y hy).st⟩, rfl, ⟨es', c', hm2, he', hg⟩, ?_⟩
  unfold left
  have e1 : mapEs (w.putObj m (.map es' c')) m = es'.toList := by unfold mapEs; rw [hm2]
  have e2 : mapEs w m = es.toList := by unfold mapEs; rw [h1]
  rw [e1, e2]
  refine countP_lt (y := y) ?_ hy ?_ ?_
  · intro z hz hq
    rw [hg] at hq
    rw [h3]
    by_cases e : z.p ∈ K.map PB.p
    · have : z.p ∈ (K ++ [y]).map PB.p := by rw [List.map_append]; exact List.mem_append.2 (.inl e)
      rw [if_pos this] at hq; cases hq
    · rw [if_neg e]; rfl
  · rw [h3, if_neg hn]; rfl
  · rw [hg, if_pos (by simp)]; rfl
end Go.Proofs.Ytikigppfnhilhaa
/- reached: the walk. -/
namespace Go.Proofs.Ytikigppfnhilhaa
open Go.RowKit Go.Instr
set_option linter.unusedVariables false
set_option linter.unusedSimpArgs false

def slLen : Value → Nat
  | .slice _ n _ => n
  | _ => 0

theorem own_ext {w w' : World} {base : Nat} {e : TypeId} {size : Nat} {v : Value} {n : Nat} {xs : List Value} (h : w.ownsRow base e size v n xs) (hx : Ext w w') : w'.ownsRow base e size v n xs :=
  ownsRow_keeps h fun k hk => hx.heap k (by obtain ⟨cur, hb⟩ := ownsRow_type h hk; exact hb.lt)
theorem left_keep {x : PH} {w w' : World} {m : Nat} (h : w'.heap[m]? = w.heap[m]?) : left x w' m = left x w m := by
  unfold left mapEs; rw [h]
theorem nodup_inj {α : Type} {l : List α} {f : α → Nat} (h : (l.map f).Nodup) {a b : α} (ha : a ∈ l) (hb : b ∈ l) (e : f a = f b) : a = b := by
  induction l with
  | nil => cases ha
  | cons c l ih =>
    obtain ⟨h1, h2⟩ := List.nodup_cons.1 h
    rcases List.mem_cons.1 ha with ea | ha <;> rcases List.mem_cons.1 hb with eb | hb
    · rw [ea, eb]
    · exact (h1 (by rw [← ea, e]; exact List.mem_map_of_mem hb)).elim
    · exact (h1 (by rw [← eb, ← e]; exact List.mem_map_of_mem ha)).elim
    · exact ih h2 ha hb

set_option maxRecDepth 100000 in
set_option maxHeartbeats 2000000 in
theorem reached_any {w : World} {base : Nat} {x : PH} (h : HRep w base x) (hok : x.Ok) {v : Value} {from_ : List Wd} (hr : RdW w v from_) (hl : from_.length ≤ 2000000) {gf : Nat} {lead : Array Value} (eg : ∀ args w, (callFunc gf args).run Try.prog w = .ok (.enter gf args) w)
    {p : PB → Bool} (hp : ∀ y ∈ x.all, ∀ W, Ext w W → Calls Try.prog gf (lead.push y.ptr) W fun e W' => e = .returned (.bool (p y)) ∧ Ext W W') :
    Calls Try.prog 45 #[.pointer (some ⟨x.hp, 0, none⟩), v, .func (.func gf) lead #[]] w fun e w' => ∃ K, e = .returned (.map (some w.heap.size)) ∧ Ext w w' ∧ KMap w' w.heap.size K ∧ (∀ y, y ∈ K ↔ Rch x.find p from_ y) ∧ (∀ y ∈ K, y ∈ x.all) ∧ (K.map PB.p).Nodup := by
  have hmm := run_makeMap (P := Try.prog) 101 w
  obtain ⟨w1, hw1⟩ : ∃ w1, w.alloc (.map #[] 0) = w1 := ⟨_, rfl⟩
  rw [hw1] at hmm
  obtain ⟨m, hm⟩ : ∃ m, m = w.heap.size := ⟨_, rfl⟩
  rw [← hm] at hmm ⊢
  have hx1 : Ext w w1 := by rw [← hw1]; exact (Ext.refl w).alloc _
  have hm1 : w1.heap[m]? = some (.map #[] 0) := by rw [← hw1, hm]; exact World.alloc_heap_new _ _
  have hs1 : w1.heap.size = m + 1 := by rw [← hw1, hm]; simp
  have HC := Lib.hid (CloneW_any (hr.ext hx1) hl)
  have Hr := Lib.hid hr
  clear hr
  have hlen : x.all.length ≤ 200000 := hok.all_len
  go_enter Try.func45, Try.ntmps45
  go_wp2_with fail
  apply wp_scope_straight
  go_wp2_with (go_at_call 38; refine HC.out.mono ?_; rintro e w2 ⟨t0, rfl, hown, hx2⟩)
  have Ho : Hid (w2.ownsRow (m + 1) 33 6 t0 from_.length (flatL from_)) := Lib.hid (ownsRow_base hown (by omega))
  have HX : Hid (Ext w w2) := Lib.hid (hx1.trans hx2)
  have HM : Hid (KMap w2 m []) := Lib.hid ⟨#[], 0, (hx2.heap m (by omega)).trans hm1, ⟨by simp, by simp, by simp, by simp⟩, fun k => by simp [esPtr]⟩
  have HR : Hid (RS x p from_ [] from_) := Lib.hid (RS.start x p from_)
  have Hsz : Hid (m + 1 ≤ w2.heap.size) := Lib.hid (by have := hx2.size; omega)
  have HL := Lib.hid hl
  have Hm := Lib.hid hm
  clear hown hx2 hx1 hm1 hmm hw1 hs1 HC hl hm
  rw [← Hm.out]
  apply wp_label
  go_wp2_with fail
  go_loopw [8] (fun t wr => ∃ K ws, Hid (RS x p from_ K ws) ∧ Hid (Ext w wr) ∧ Hid (wr.ownsRow (m + 1) 33 6 t ws.length (flatL ws)) ∧ Hid (KMap wr m K) ∧ Hid (m + 1 ≤ wr.heap.size)) (fun t wr => left x wr m * 100001 + slLen t)
  case atStart => exact ⟨[], from_, HR, HX, Ho, HM, Hsz⟩
  case round =>
    clear Ho HX HM HR Hsz Hr
    obtain ⟨K, ws, HR, HX, Ho, HM, Hsz⟩ := hrel
    rcases List.eq_nil_or_concat ws with rfl | ⟨ws', u, hw⟩
    · obtain ⟨a0, c0, rfl⟩ := own_slice Ho.out
      clear Ho
      go_wp2
      rw [Exit.noGoto_ret]
      go_ret
      exact ⟨K, rfl, HX.out, HM.out, HR.out.done, fun y hy => (HR.out.sub y hy).1, HR.out.nd⟩
    · rw [List.concat_eq_append] at hw; subst hw
      have hK : K.length ≤ 200000 := Nat.le_trans HR.out.count hlen
      have hn : ws'.length ≤ 20002000000 := by have := HR.out.len; have := HL.out; simp at *; omega
      have Ho1 : wr.ownsRow (m + 1) 33 6 u8 (ws'.length + 1) (flatL ws' ++ u.cells) := by have := Ho.out; rw [flatL_append] at this; simpa [flatL] using this
      obtain ⟨g, cp, rfl⟩ := ownsRow_succ Ho1
      clear Ho
      have hc := Ho1.cells (g := g) rfl
      have Ho2 := Lib.hid (ownsRow_pop (by rw [flatL_length]) Ho1)
      have hcell : ∀ j, j < 6 → wr.cell? ⟨g, ws'.length * 6 + j, none⟩ = u.cells[j]? := fun j hj => by
        obtain ⟨z, hz⟩ : ∃ z, u.cells[j]? = some z := ⟨_, List.getElem?_eq_getElem (by simpa [Wd.cells] using hj)⟩
        rw [hz]
        have := hc (ws'.length * 6 + j) z (by rw [List.getElem?_append_right (by rw [flatL_length]; omega), flatL_length]; simpa using hz)
        rw [show (⟨g, 0, none⟩ : Addr).add (ws'.length * 6 + j) = ⟨g, ws'.length * 6 + j, none⟩ from by unfold Addr.add; split <;> simp_all] at this
        exact this
      have c0 : wr.cell? ⟨g, ws'.length * 6, none⟩ = some (.int .i64 u.tag) := (hcell 0 (by omega)).trans rfl
      have c1 : wr.cell? ⟨g, ws'.length * 6 + 1, none⟩ = some (.int .i64 u.a) := (hcell 1 (by omega)).trans rfl
      have c2 : wr.cell? ⟨g, ws'.length * 6 + 2, none⟩ = some (.int .i64 u.b) := (hcell 2 (by omega)).trans rfl
      have c3 : wr.cell? ⟨g, ws'.length * 6 + 3, none⟩ = some (.string u.text) := (hcell 3 (by omega)).trans rfl
      have c4 : wr.cell? ⟨g, ws'.length * 6 + 4, none⟩ = some (.int .i64 u.man) := (hcell 4 (by omega)).trans rfl
      have c5 : wr.cell? ⟨g, ws'.length * 6 + 5, none⟩ = some (.int .i64 u.exp) := (hcell 5 (by omega)).trans rfl
      have hcp : ws'.length + 1 ≤ cp := by
        rcases Ho1.2 with ⟨h0, _⟩ | ⟨g', cap', cur, hv, _, _, hn, hcap, _⟩
        · cases h0
        · cases hv; omega
      clear hcell hc Ho1
      have Hf : ∀ W, Calls Try.prog 41 #[u.val] W _ := fun W => refers_any u W
      unfold Wd.val Wd.cells at Hf
      have HHf := Lib.hid Hf; clear Hf
      go_wp2_with fail
      refine (HHf.out _).mono ?_
      rintro e w3 ⟨rfl, hx3⟩
      have hg3 := Keeps.trans ((Ext.refl wr).alloc _) hx3
      have HX3 := Lib.hid (HX.out.trans hg3)
      have Ho3 : Hid (w3.ownsRow (m + 1) 33 6 (.slice (some ⟨g, 0, none⟩) ws'.length cp) ws'.length (flatL ws')) := Lib.hid (own_ext Ho2.out hg3)
      have HM3 : Hid (KMap w3 m K) := Lib.hid (HM.out.keep (Ext.heap hg3 m (by have := Hsz.out; omega)))
      have Hsz3 : Hid (m + 1 ≤ w3.heap.size) := Lib.hid (Nat.le_trans Hsz.out hg3.size)
      have Hl3 : Hid (left x w3 m = left x wr m) := Lib.hid (left_keep (Ext.heap hg3 m (by have := Hsz.out; omega)))
      have Hh3 := Lib.hid (h.ext HX3.out)
      clear hx3 hg3 c0 c1 c2 c3 c4 c5
      cases hf : x.find (refW u) with
      | none =>
        have Hf := Lib.hid hf; clear hf
        go_wp2_with (go_at_call 42; refine (block_none Hh3.out Hf.out).mono ?_; rintro e w4 ⟨rfl, rfl⟩)
        exact ⟨⟨K, ws', HR.out.skip (fun y hy => by rw [Hf.out] at hy; cases hy), HX3, Ho3, HM3, Hsz3⟩, by rw [Hl3.out]; simp [slLen]⟩
      | some y =>
        have Hf := Lib.hid hf; clear hf
        have hy : y ∈ x.all := (PH.find_mem Hf.out).1
        have hlk := HM3.out.lookup Hh3.out (fun y hy => (HR.out.sub y hy).1) hy
        by_cases hin : y.p ∈ K.map PB.p
        · rw [decide_eq_true hin] at hlk
          have Hin := Lib.hid hin; clear hin
          go_wp2_with (go_at_call 42; refine (block_some Hh3.out Hf.out).mono ?_; rintro e w4 ⟨rfl, rfl⟩)
          refine ⟨⟨K, ws', HR.out.skip (fun z hz _ => ?_), HX3, Ho3, HM3, Hsz3⟩, by rw [Hl3.out]; simp [slLen]⟩
          rw [Hf.out] at hz; injection hz with hz; subst hz
          obtain ⟨z, hz, e⟩ := List.mem_map.1 Hin.out
          have := nodup_inj h.ps (HR.out.sub z hz).1 hy e
          rw [← this]; exact hz
        · rw [decide_eq_false hin] at hlk
          have Hin := Lib.hid hin; clear hin
          have Hcl := Lib.hid (hp y hy w3 HX3.out)
          unfold PB.ptr at Hcl
          go_wp2_with (go_at_call 42; refine (block_some Hh3.out Hf.out).mono ?_; rintro e w4 ⟨rfl, rfl⟩)
          refine Hcl.out.mono ?_
          rintro e w4 ⟨rfl, hx4⟩
          have HX4 := Lib.hid (Keeps.trans HX3.out hx4)
          have hmlt : m < w3.heap.size := by have := Hsz3.out; omega
          have HM4 : Hid (KMap w4 m K) := Lib.hid (HM3.out.keep (Ext.heap hx4 m hmlt))
          have Ho4 := Lib.hid (own_ext Ho3.out hx4)
          have Hsz4 : Hid (m + 1 ≤ w4.heap.size) := Lib.hid (Nat.le_trans Hsz3.out hx4.size)
          have Hl4 : Hid (left x w4 m = left x wr m) := Lib.hid ((left_keep (Ext.heap hx4 m hmlt)).trans Hl3.out)
          clear hx4 hmlt HX3 HM3 Ho3 Hsz3 Hl3 Hcl hlk
          cases hpy : p y with
          | false =>
            have Hpy := Lib.hid hpy; clear hpy
            go_wp2
            refine ⟨⟨K, ws', HR.out.skip (fun z hz hpz => ?_), HX4, Ho4, HM4, Hsz4⟩, by rw [Hl4.out]; simp [slLen]⟩
            rw [Hf.out] at hz; injection hz with hz; subst hz
            rw [Hpy.out] at hpz; cases hpz
          | true =>
            have Hpy := Lib.hid hpy; clear hpy
            obtain ⟨o, w5, hrun, hw5, hM5, hleft⟩ := HM4.out.update (h.ext HX4.out) (fun y hy => (HR.out.sub y hy).1) hy Hin.out
            obtain ⟨es4, ck4, hm4, -⟩ := HM4.out.ex
            have HM5 := Lib.hid hM5
            have HX5 : Hid (Ext w w5) := Lib.hid (by rw [hw5]; exact HX4.out.putObj (.inr (by rw [Hm.out]; exact Nat.le_refl _)) _)
            have Ho5 : Hid (w5.ownsRow (m + 1) 33 6 (.slice (some ⟨g, 0, none⟩) ws'.length cp) ws'.length (flatL ws')) := Lib.hid (by rw [hw5]; exact ownsRow_putObj hm4 rfl _ Ho4.out)
            have Hsz5 : Hid (m + 1 ≤ w5.heap.size) := Lib.hid (by rw [hw5]; simpa using Hsz4.out)
            have Hl5 : Hid (left x w5 m < left x wr m) := Lib.hid (by have := Hl4.out; omega)
            clear hM5 hleft hw5 hm4 
            have hpb5 := (h.ext HX5.out).pbs y hy
            have c2 : w5.cell? ⟨y.p, 2, none⟩ = some (.slice (some ⟨y.arr, 0, none⟩) y.b.ws.length y.b.ws.length) := (hpb5.st.cell 2).trans rfl
            have Hrd := Lib.hid (rdW_of_pb hpb5)
            have Hyl : Hid (y.b.ws.length ≤ 100000) := Lib.hid (hok.len hy)
            clear hpb5
            obtain ⟨i0, hi, hz0, hz1, hz2⟩ := info_parts info_wordC
            go_wp2_with (at_builtin; refine wpList_append_fresh rfl _ _ 23 rfl (m + 1) 33 i0 _ 6 56 Try.underlying23 hi hz0 hz1 hz2 rfl (by decide) _ ws'.length (flatL ws') rfl Ho5.out ⟨y.arr, 0, none⟩ y.b.ws.length y.b.ws.length (flatL y.b.ws) rfl (flatL_length y.b.ws) ?c1 ?c2 ?c3 ?c4 ?c5 ?_)
            case c1 =>
              obtain ⟨a, c, e, -, hr⟩ := Hrd.out
              injection e with e1 e2 e3
              exact hr _ e1.symm
            case c2 => exact flatL_one _
            case c3 => have := Hyl.out; unfold maxLen; omega
            case c4 => have := Hyl.out; omega
            case c5 => exact Hsz5.out
            intro v' w6 hown hgrow hnil hfresh
            obtain ⟨cur5, hb5⟩ : ∃ cur5, Blk w5 g cur5 33 := ownsRow_type Ho5.out rfl
            have hgm : m + 1 ≤ g := by
              rcases Ho5.out.2 with ⟨h0, _⟩ | ⟨g', cap', cur, hv, hg, _⟩
              · cases h0
              · cases hv; exact hg
            have hm6 : w6.heap[m]? = w5.heap[m]? := hgrow.block m (by have := Hsz5.out; omega) (by simp [Value.ownBlock]; omega)
            have Hown := Lib.hid hown
            have hrow : ∀ k, Value.ownBlock (.slice (some ⟨g, 0, none⟩) ws'.length cp) = some k → False ∨ w.heap.size ≤ k := fun k e => by
              have e' : g = k := by simpa [Value.ownBlock] using e
              rw [← Hm.out]; right; omega
            have HX6 : Hid (Ext w w6) := Lib.hid (HX5.out.grown hgrow hrow)
            have HM6 := Lib.hid (HM5.out.keep hm6)
            have Hl6 : Hid (left x w6 m < left x wr m) := Lib.hid (by rw [left_keep hm6]; exact Hl5.out)
            have Hsz6 : Hid (m + 1 ≤ w6.heap.size) := Lib.hid (Nat.le_trans Hsz5.out hgrow.size)
            clear hown hgrow hnil hfresh hm6 hb5 hgm hrow
            go_wp2
            obtain ⟨a6, c6, rfl⟩ := own_slice Hown.out
            refine ⟨⟨K ++ [y], ws' ++ y.b.ws, HR.out.add Hf.out Hpy.out Hin.out Hyl.out, HX6, ?_, HM6, Hsz6⟩, ?_⟩
            · have := Hown.out; rw [List.length_append, flatL_append]; exact this
            · have := Hl6.out; have := Hyl.out; simp only [slLen]; omega
end Go.Proofs.Ytikigppfnhilhaa
