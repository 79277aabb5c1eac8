/- settle: all words and the roots refer to where the blocks are now; the blocks are found there. -/
import Derived.Test.YtikigppfnhilhaaGPD12
import Derived.Test.YtikigppfnhilhaaGPD13
import Derived.Test.YtikigppfnhilhaaGPD14
import Derived.Test.YtikigppfnhilhaaGPD10
import Derived.Test.YtikigppfnhilhaaGPD8
import Derived.Laws.EntriesVeiled
import Derived.Carry
/- settle: all words and the roots refer to where the blocks are now; the blocks are found there. -/
namespace Go.Proofs.Ytikigppfnhilhaa
open Go.RowKit Go.Instr Go.Shelf
set_option linter.unusedVariables false
set_option linter.unusedSimpArgs false
attribute [local go_sem] Oper.semAt_some

theorem allF_is {w : World} (n : Nat) (hn : 1 ≤ n) (bx hp : Nat) (ya oa : Option Addr) (yc oc : Nat) (yb ob : List PB) (hyl : yb.length ≤ 100000) (hol : ob.length ≤ 100000)
    (hbx : w.cell? ⟨bx, 0, none⟩ = some (.pointer (some ⟨hp, 0, none⟩))) (h3 : w.cell? ⟨hp, 3, none⟩ = some (.slice ya yb.length yc)) (h7 : w.cell? ⟨hp, 7, none⟩ = some (.slice oa ob.length oc)) (hy : RowP w ya yb) (ho : RowP w oa ob) :
    SeqIs n Try.prog 66 #[.pointer (some ⟨bx, 0, none⟩)] (fun y : PB => #[y.ptr]) KeepP (yb ++ ob) w := by
  intro l J Jx W hW hJ hJx hY h0
  have hc : ∀ a v, w.cell? a = some v → W.cell? a = some v := fun a v h => by
    rw [← h]; exact World.cell?_of_block (hW.block _ (World.block_lt_of_cell? w _ h))
  have hk : KeepP w W := fun k c t hb _ => (hW.block k hb.lt).trans hb
  refine (allF_in n hn l bx hp ya oa yc oc yb ob hyl hol (fun L W => J L.length W) (fun L W => L.length ≤ (yb ++ ob).length ∧ Jx L.length W) ?_ W (hc _ _ hbx) (hc _ _ h3) (hc _ _ h7) (hy.keep hk) (ho.keep hk) ?_ h0).mono ?_
  · intro L y W1 hp hyy
    obtain ⟨fn, tmps, assign, body, hyl, hR⟩ := hY L.length y W1 hp hyy
    have hlt : L.length < (yb ++ ob).length := (List.getElem?_eq_some_iff.1 hyy).1
    refine ⟨fn, tmps, assign, body, hyl, hR.mono ?_⟩
    rintro e W' (⟨rfl, h1, h2⟩ | ⟨rfl, h1⟩)
    · exact .inl ⟨rfl, by simpa using h1, h2⟩
    · exact .inr ⟨rfl, by simp at hlt ⊢; omega, by simpa using h1⟩
  · intro s A B row h2 hg hr
    exact hJ s.length A B row h2 hg hr
  · rintro e W' ⟨hv, ⟨ys, rfl, h2⟩ | ⟨L, _, h2, h3⟩⟩
    · exact ⟨hv, .inl h2⟩
    · exact ⟨hv, .inr ⟨L.length, h2, h3⟩⟩

/-- A heap whose blocks lie where they shall, but for words and the map of addresses. -/
structure Mid (w : World) (base : Nat) (x : PH) (es : Array MapEntry) (ck : Nat) (f : Int → Int) : Prop where
  blk : Blk w x.hp x.cells 81
  yrow : w.ownsRow base 89 1 x.yv x.yb.length (x.yb.map PB.ptr)
  orow : w.ownsRow base 89 1 x.ov x.ob.length (x.ob.map PB.ptr)
  rows : ∀ k, x.yv.ownBlock = some k → x.ov.ownBlock ≠ some k
  amap : MapV w x.av es ck
  keys : ∀ e ∈ es, ∃ k, e.key = .int .i64 k
  rmap : ∃ es clock, MapV w x.rv es clock ∧ IntEs es clock ∧ ∀ k, esGet es.toList k = if k ∈ x.R then some (.bool true) else none
  pbs : ∀ y ∈ x.all, PBlk w y
  ps : (x.all.map PB.p).Nodup
  arrs : (x.all.map PB.arr).Nodup
  base_ : ∀ k, x.fp k → base ≤ k
  ok : x.Ok
  ref : ∀ y ∈ x.all, ∀ u ∈ y.b.ws, refW u ≠ 0 → ∃ z ∈ x.all, esGet es.toList u.a = some z.ptr ∧ f u.a = z.b.at_

def mvPB (f : Int → Int) (z : PB) : PB := { z with b := { z.b with ws := z.b.ws.map (mvW f) } }
def PH.moved (x : PH) (f : Int → Int) (m : Nat) : PH := { x with av := .map (some m), yb := x.yb.map (mvPB f), ob := x.ob.map (mvPB f) }

theorem Mid.fp_lt {w : World} {base : Nat} {x : PH} {es : Array MapEntry} {ck : Nat} {f : Int → Int} (h : Mid w base x es ck f) (k : Nat) (hk : x.fp k) : k < w.heap.size := by
  rcases hk with rfl | hk | hk | hk | hk | hk | hk
  · exact h.blk.lt
  · exact (h.yrow.lt k hk.symm).2
  · exact (h.orow.lt k hk.symm).2
  · have hm := h.amap; rw [hk] at hm; exact (Array.getElem?_eq_some_iff.1 hm.lt).1
  · obtain ⟨es, c, hm, -⟩ := h.rmap; rw [hk] at hm; exact (Array.getElem?_eq_some_iff.1 hm.lt).1
  · obtain ⟨y, hy, rfl⟩ := List.mem_map.1 hk; exact (h.pbs y hy).st.lt
  · obtain ⟨y, hy, rfl⟩ := List.mem_map.1 hk; exact (h.pbs y hy).wo.lt

/-- The first loop under way: k blocks have been done. -/
structure Loop1 (w1 : World) (x : PH) (f : Int → Int) (k : Nat) (W : World) : Prop where
  t : TKeep TW w1 W
  kp : Keeps (fun g => g ∈ x.all.map PB.arr) w1 W
  ws : ∀ (i : Nat) (y : PB), x.all[i]? = some y → Blk W y.arr (flat (if i < k then y.b.ws.map (mvW f) else y.b.ws)) 33
theorem Loop1.own (w1 : World) (x : PH) (f : Int → Int) : OwnFrom w1.heap.size (Loop1 w1 x f) := by
  intro k A B row h hg hr
  have hcell : ∀ j c t, Blk A j c t → Blk B j c t := fun j c t hb => (grownBy_keeps_cells hg (fun r e => (hr r e).2) hb rfl).trans hb
  have hk2 : ∀ j, j < w1.heap.size → B.heap[j]? = A.heap[j]? := fun j hj => hg.block j (Nat.lt_of_lt_of_le hj h.t.size) fun e => by have := (hr j e.symm).1; omega
  refine ⟨⟨hg.os.trans h.t.os, hg.tape.trans h.t.tape, hg.output.trans h.t.output, Nat.le_trans h.t.size hg.size, fun j o hj ho => (hk2 j (Array.getElem?_eq_some_iff.1 hj).1).trans (h.t.keep j o hj ho)⟩, ?_, fun i y hy => hcell _ _ _ (h.ws i y hy)⟩
  exact ⟨hg.os.trans h.kp.os, hg.tape.trans h.kp.tape, hg.output.trans h.kp.output, Nat.le_trans h.kp.size hg.size, fun j hj hn => (hk2 j hj).trans (h.kp.block j hj hn)⟩
theorem rowW_of_blk {w : World} {g : Nat} {ws : List Wd} (h : Blk w g (flat ws) 33) : RowW w g ws (ws.length * 6) :=
  ⟨flat ws, h, by simp [flat, flatL_length], Nat.le_refl _, by simp only [flat]; rw [← flatL_length]; exact List.take_length⟩
theorem blk_of_rowW {w : World} {g : Nat} {ws : List Wd} (h : RowW w g ws (ws.length * 6)) : Blk w g (flat ws) 33 := by
  obtain ⟨cur, hb, hs, hl, ht⟩ := h.ex
  have : cur = flat ws := by
    apply Array.toList_inj.1
    rw [show (flat ws).toList = flatL ws from rfl, ← ht, List.take_of_length_le (by simp; omega)]
  rw [← this]; exact hb
theorem Loop1.step {w1 W W' : World} {x : PH} {f : Int → Int} {k : Nat} {y : PB} (h : Loop1 w1 x f k W) (hn : (x.all.map PB.arr).Nodup) (hy : x.all[k]? = some y) (hr : RowW W' y.arr (y.b.ws.map (mvW f)) (y.b.ws.length * 6)) (ht : TKeep TW W W') (hk : Keeps (· = y.arr) W W') : Loop1 w1 x f (k + 1) W' := by
  have hm : y.arr ∈ x.all.map PB.arr := List.mem_map.2 ⟨y, List.mem_of_getElem? hy, rfl⟩
  refine ⟨h.t.trans ht, h.kp.trans (hk.mono fun i _ e => by subst e; exact hm), fun i z hz => ?_⟩
  by_cases e : i = k
  · subst e
    rw [hy] at hz; injection hz with hz; subst hz
    rw [if_pos (Nat.lt_succ_self _)]
    exact blk_of_rowW (by simpa using hr)
  · have hne : z.arr ≠ y.arr := by
      intro e2
      have a1 : (x.all.map PB.arr)[i]? = some z.arr := by simp [hz]
      have a2 : (x.all.map PB.arr)[k]? = some z.arr := by simp [hy, e2]
      have hi : i < (x.all.map PB.arr).length := (List.getElem?_eq_some_iff.1 a1).1
      exact e ((List.getElem?_inj hi hn).1 (a1.trans a2.symm))
    have := hk.blk (h.ws i z hz) hne
    have hc : (i < k) ↔ (i < k + 1) := by omega
    by_cases hik : i < k
    · rw [if_pos hik] at this; rw [if_pos (hc.1 hik)]; exact this
    · rw [if_neg hik] at this; rw [if_neg (fun h => hik (hc.2 h))]; exact this

theorem Dense.nodup {f : Int} {l : List Bk} (h : Dense f l) : (l.map Bk.at_).Nodup := by
  induction l generalizing f with
  | nil => exact List.nodup_nil
  | cons b l ih =>
    obtain ⟨h1, h2⟩ := h
    refine List.nodup_cons.2 ⟨fun hm => ?_, ih h2⟩
    obtain ⟨c, hc, he⟩ := List.mem_map.1 hm
    have := h2.mem hc; omega
theorem PH.Ok.ats {x : PH} (h : x.Ok) : (x.all.map fun y => y.b.at_).Nodup := by
  have e : (x.all.map fun y => y.b.at_) = (x.yb.map PB.b).map Bk.at_ ++ (x.ob.map PB.b).map Bk.at_ := by simp [PH.all, Function.comp_def]
  rw [e]
  refine List.nodup_append.2 ⟨h.dy.nodup, h.do_.nodup, ?_⟩
  intro a ha b hb e
  obtain ⟨c, hc, rfl⟩ := List.mem_map.1 ha
  obtain ⟨d, hd, rfl⟩ := List.mem_map.1 hb
  have := h.dy.mem hc; have := h.do_.mem hd; have := h.yu; have := h.yu1; omega
theorem atOf_take {l : List PB} (hn : (l.map fun y => y.b.at_).Nodup) {k : Nat} {y : PB} (hy : l[k]? = some y) (j : Int) : atOf (l.take (k + 1)) j = if j = y.b.at_ then some y.ptr else atOf (l.take k) j := by
  rw [List.take_add_one, hy, atOf_append]
  simp only [Option.toList]
  rw [atOf_one]
  by_cases e : j = y.b.at_
  · rw [if_pos e, if_pos e, atOf_none (l := l.take k)]
    · rfl
    · intro z hz e2
      obtain ⟨i, hi⟩ := List.mem_iff_getElem?.1 hz
      have hik : i < k := by have := (List.getElem?_eq_some_iff.1 hi).1; simp at this; omega
      rw [List.getElem?_take_of_lt hik] at hi
      have a1 : (l.map fun y => y.b.at_)[i]? = some j := by simp [hi, e2]
      have a2 : (l.map fun y => y.b.at_)[k]? = some j := by simp [hy, e]
      have := (List.getElem?_inj (List.getElem?_eq_some_iff.1 a1).1 hn).1 (a1.trans a2.symm)
      omega
  · rw [if_neg e, if_neg e]; simp

/-- The second loop under way. -/
structure Loop2 (w7 : World) (x : PH) (m k : Nat) (W : World) : Prop where
  kp : Keeps (· = m) w7 W
  ex : ∃ es ck, W.heap[m]? = some (.map es ck) ∧ IntEs es ck ∧ ∀ j, esGet es.toList j = atOf (x.all.take k) j
theorem Loop2.own (w7 : World) (x : PH) {m : Nat} (hm : m < w7.heap.size) : OwnFrom w7.heap.size (Loop2 w7 x m) := by
  intro k A B row h hg hr
  have hk2 : ∀ j, j < w7.heap.size → B.heap[j]? = A.heap[j]? := fun j hj => hg.block j (Nat.lt_of_lt_of_le hj h.kp.size) fun e => by have := (hr j e.symm).1; omega
  obtain ⟨es, ck, h1, h2⟩ := h.ex
  exact ⟨⟨hg.os.trans h.kp.os, hg.tape.trans h.kp.tape, hg.output.trans h.kp.output, Nat.le_trans h.kp.size hg.size, fun j hj hn => (hk2 j hj).trans (h.kp.block j hj hn)⟩, es, ck, (hk2 m hm).trans h1, h2⟩
theorem Loop2.step {w7 W : World} {x : PH} {m k : Nat} (hn : (x.all.map fun y => y.b.at_).Nodup) {y : PB} (hy : x.all[k]? = some y) (hk : Keeps (· = m) w7 W) {es es' : Array MapEntry} {c c' : Nat} (hm : W.heap[m]? = some (.map es c))
    (hg : ∀ j, esGet es.toList j = atOf (x.all.take k) j) (he' : IntEs es' c') (hg' : ∀ j, esGet es'.toList j = if j = y.b.at_ then some y.ptr else esGet es.toList j) : Loop2 w7 x m (k + 1) (W.putObj m (.map es' c')) :=
  ⟨hk.putObj (.inl rfl) _, es', c', World.putObj_heap_same (Array.getElem?_eq_some_iff.1 hm).1, he', fun j => by rw [hg' j, hg j, atOf_take hn hy]⟩

theorem mvPB_all (x : PH) (f : Int → Int) (m : Nat) : (x.moved f m).all = x.all.map (mvPB f) := by simp [PH.moved, PH.all]
theorem atOf_mv (f : Int → Int) (l : List PB) (k : Int) : atOf (l.map (mvPB f)) k = atOf l k := by
  unfold atOf
  induction l with
  | nil => rfl
  | cons y l ih =>
    simp only [List.map_cons, List.find?_cons]
    have e : (mvPB f y).b.at_ = y.b.at_ := rfl
    rw [e]
    cases decide (y.b.at_ = k)
    · exact ih
    · rfl
theorem bused_mv (f : Int → Int) (l : List PB) : bused ((l.map (mvPB f)).map PB.b) = bused (l.map PB.b) := by
  unfold bused; simp [Function.comp_def, mvPB]
theorem dense_mv (f : Int → Int) : ∀ (l : List PB) (a : Int), Dense a (l.map PB.b) → Dense a ((l.map (mvPB f)).map PB.b)
  | [], _, _ => trivial
  | y :: l, a, h => ⟨h.1, by have := dense_mv f l _ h.2; simpa [mvPB] using this⟩
theorem PH.Ok.mv {x : PH} (h : x.Ok) (f : Int → Int) (m : Nat) : (x.moved f m).Ok where
  Y0 := h.Y0
  Y1 := h.Y1
  O0 := h.O0
  O1 := h.O1
  yu := by simp only [PH.moved]; rw [bused_mv]; exact h.yu
  ou := by simp only [PH.moved]; rw [bused_mv]; exact h.ou
  yu1 := h.yu1
  ou1 := h.ou1
  fy := h.fy
  fo := h.fo
  nil := fun e => h.nil (.inr (by rcases e with e | e; · cases e
                                  · exact e))
  dy := dense_mv f _ _ h.dy
  do_ := dense_mv f _ _ h.do_
/-- What settle leaves is a heap. -/
theorem Mid.done {w X : World} {base : Nat} {x : PH} {es : Array MapEntry} {ck : Nat} {f : Int → Int} {m : Nat} (h : Mid w base x es ck f) (hbm : base ≤ m) (hmw : w.heap.size ≤ m)
    (hb : Blk X x.hp (x.moved f m).cells 81) (hk : Keeps (fun k => k = x.hp ∨ k ∈ x.all.map PB.arr) w X)
    (hw : ∀ y ∈ x.all, Blk X y.arr (flat (y.b.ws.map (mvW f))) 33)
    (hm : ∃ es ck, X.heap[m]? = some (.map es ck) ∧ IntEs es ck ∧ ∀ j, esGet es.toList j = atOf x.all j) : HRep X base (x.moved f m) := by
  have hcell : ∀ {k c t}, Blk w k c t → t ≠ 81 → t ≠ 33 → Blk X k c t := fun hb h1 h2 => hk.blk hb (by
    rintro (rfl | e)
    · exact (hb.ne h.blk h1) rfl
    · obtain ⟨y, hy, e⟩ := List.mem_map.1 e
      exact (hb.ne (h.pbs y hy).wo h2) e.symm)
  have hrow : ∀ {v n xs}, w.ownsRow base 89 1 v n xs → X.ownsRow base 89 1 v n xs := fun hr => ownsRow_keeps hr fun k e => by
    obtain ⟨cur, hc⟩ := ownsRow_type hr e
    exact (hcell hc (by decide) (by decide)).trans hc.symm
  have hps : ∀ l : List PB, (l.map (mvPB f)).map PB.ptr = l.map PB.ptr := fun l => by simp [Function.comp_def, mvPB, PB.ptr]
  refine ⟨hb, ?_, ?_, h.rows, ?_, ?_, ?_, ?_, ?_, ?_, ?_, h.ok.mv f m⟩
  · simp only [PH.moved]; rw [hps, List.length_map]; exact hrow h.yrow
  · simp only [PH.moved]; rw [hps, List.length_map]; exact hrow h.orow
  · obtain ⟨es, c, h1, h2, h3⟩ := hm
    exact ⟨es, c, .inr ⟨m, rfl, h1⟩, h2, fun j => by rw [mvPB_all, atOf_mv]; exact h3 j⟩
  · obtain ⟨es, c, h1, h2, h3⟩ := h.rmap
    refine ⟨es, c, h1.keeps fun k e => hk.block k (h.fp_lt k (.inr (.inr (.inr (.inr (.inl e)))))) ?_, h2, h3⟩
    rw [e] at h1
    rintro (rfl | e2)
    · have := h.blk; unfold Blk at this; rw [h1.lt] at this; cases this
    · obtain ⟨y, hy, e2⟩ := List.mem_map.1 e2
      subst e2
      have := (h.pbs y hy).wo; unfold Blk at this; rw [h1.lt] at this; cases this
  · intro k e e2
    injection e with e; injection e with e; subst e
    have := h.fp_lt m (.inr (.inr (.inr (.inr (.inl e2))))); omega
  · intro z hz
    rw [mvPB_all] at hz
    obtain ⟨y, hy, rfl⟩ := List.mem_map.1 hz
    refine ⟨?_, hw y hy⟩
    have := hcell (h.pbs y hy).st (by decide) (by decide)
    have e : (mvPB f y).cells = y.cells := by simp [PB.cells, mvPB]
    rw [e]; exact this
  · rw [mvPB_all, List.map_map]; exact h.ps
  · rw [mvPB_all, List.map_map]; exact h.arrs
  · intro k hk
    rcases hk with e | e | e | e | e | e | e
    · exact h.base_ k (.inl e)
    · exact h.base_ k (.inr (.inl e))
    · exact h.base_ k (.inr (.inr (.inl e)))
    · injection e with e; injection e with e; subst e; exact hbm
    · exact h.base_ k (.inr (.inr (.inr (.inr (.inl e)))))
    · rw [mvPB_all, List.map_map] at e; exact h.base_ k (.inr (.inr (.inr (.inr (.inr (.inl e))))))
    · rw [mvPB_all, List.map_map] at e; exact h.base_ k (.inr (.inr (.inr (.inr (.inr (.inr e))))))

set_option maxRecDepth 100000 in
set_option maxHeartbeats 2000000 in
theorem settle_any {w : World} {base : Nat} {x : PH} {es : Array MapEntry} {ck : Nat} {f : Int → Int} (h : Mid w base x es ck f) {v : Value} {roots : List Wd} (hr : RdW w v roots) (hl : roots.length ≤ 2000000)
    (href : ∀ u ∈ roots, refW u ≠ 0 → ∃ z ∈ x.all, esGet es.toList u.a = some z.ptr ∧ f u.a = z.b.at_) :
    Calls Try.prog 62 #[.pointer (some ⟨x.hp, 0, none⟩), v] w fun e w' => ∃ v' m, e = .returned v' ∧ w'.ownsRow w.heap.size 33 6 v' roots.length (flatL (roots.map (mvW f))) ∧ HRep w' base (x.moved f m) ∧ Keeps x.fp w w' ∧ w.heap.size ≤ m := by
  refine (callsIn_wide (n := 9)).1 ?_
  rw [← WF_none]
  have hro : (WF none).round = none := rfl
  refine callsIn_of_wp_marks Try.func62 rfl trivial ?_ hro
  simp only [Try.ntmps62, List.size_toArray, List.length_cons, List.length_nil, Nat.reduceAdd, Nat.reduceSub, Array.replicate_succ, Array.replicate_zero, List.push_toArray, List.append_toArray, List.nil_append, List.cons_append]
  gi_wp2_with fail
  refine (callsIn_WF (CloneW_any (RdW.ext (RdW.ext hr ((Ext.refl w).alloc _)) ((Ext.refl _).alloc _)) hl)).mono ?_
  rintro e w2 ⟨v', rfl, hown0, hx⟩
  have hxw : Ext w w2 := (((Ext.refl w).alloc _).alloc _).trans hx
  have hbh : Blk w2 w.heap.size #[.pointer (some ⟨x.hp, 0, none⟩)] 25 := hx.blk ((Blk.new w _ _).alloc _) id
  have hbu : Blk w2 (w.heap.size + 1) #[.func (.func 81) #[] #[.pointer (some ⟨w.heap.size, 0, none⟩)]] 128 := hx.blk (by
    have := Blk.new (w.alloc (.cells #[.pointer (some ⟨x.hp, 0, none⟩)] 25)) #[.func (.func 81) #[] #[.pointer (some ⟨w.heap.size, 0, none⟩)]] 128
    rw [World.size_alloc] at this; exact this) id
  have hown := ownsRow_base hown0 (b' := w.heap.size) (by simp; omega)
  have hg : ∀ k, v'.ownBlock = some k → w.heap.size ≤ k := fun k hk => (hown.lt k hk).1
  have cU : w2.cell? ⟨w.heap.size + 1, 0, none⟩ = some (.func (.func 81) #[] #[.pointer (some ⟨w.heap.size, 0, none⟩)]) := (hbu.cell 0).trans rfl
  have cH : w2.cell? ⟨w.heap.size, 0, none⟩ = some (.pointer (some ⟨x.hp, 0, none⟩)) := (hbh.cell 0).trans rfl
  have henv : ∀ ws : List Wd, (∀ u ∈ ws, refW u ≠ 0 → ∃ z ∈ x.all, esGet es.toList u.a = some z.ptr ∧ f u.a = z.b.at_) → UpEnv w2 w.heap.size x.hp x.cells x.av es ck f ws := fun ws hws =>
    ⟨hbh, hxw.blk h.blk id, rfl, by
      rcases h.amap with hm | ⟨m, hm, hm2⟩
      · exact .inl hm
      · exact .inr ⟨m, hm, hxw.obj hm2 id⟩, h.keys, fun u hu hr => by
      obtain ⟨z, hz, h1, h2⟩ := hws u hu hr
      exact ⟨z.p, z.cells, h1, hxw.blk (h.pbs z hz).st id, by rw [h2]; rfl⟩⟩
  have HE := Lib.hid henv
  have HO := Lib.hid hown
  have HX := Lib.hid hxw
  have HG := Lib.hid hg
  clear hown0 hx henv hown hxw hg hr
  gi_wp2_with fail
  refine (callsIn_WF (settleF_own (HE.out roots href) HO.out hl)).mono ?_
  rintro e w3 ⟨rfl, hO3, hT3, hK3⟩
  have cU3 : w3.cell? ⟨w.heap.size + 1, 0, none⟩ = some (.func (.func 81) #[] #[.pointer (some ⟨w.heap.size, 0, none⟩)]) := ((hT3.blk hbu rfl).cell 0).trans rfl
  have cH3 : w3.cell? ⟨w.heap.size, 0, none⟩ = some (.pointer (some ⟨x.hp, 0, none⟩)) := ((hT3.blk hbh rfl).cell 0).trans rfl
  have hx3 : Ext w w3 := HX.out.trans' hK3 fun i hi e => by have := HG.out i e; omega
  gi_wp2_with fail
  refine (callsIn_WF (all_any _ _)).mono ?_
  rintro e w4 ⟨rfl, hw4⟩
  have HE3 : Hid (∀ ws : List Wd, (∀ u ∈ ws, refW u ≠ 0 → ∃ z ∈ x.all, esGet es.toList u.a = some z.ptr ∧ f u.a = z.b.at_) → UpEnv w4 w.heap.size x.hp x.cells x.av es ck f ws) :=
    fun ws hws => by rw [← hw4]; exact (HE.out ws hws).keep (hT3.alloc _) rfl rfl rfl
  have hx4 : Ext w w4 := by rw [← hw4]; exact hx3.alloc _
  have hO4 : w4.ownsRow w.heap.size 33 6 v' roots.length (flatL (roots.map (mvW f))) := by
    rw [← hw4]; exact ownsRow_keeps hO3 fun k hk => Below.heap_alloc _ _ _ (hO3.lt k hk).2
  have hbu4 : Blk w4 (w.heap.size + 1) #[.func (.func 81) #[] #[.pointer (some ⟨w.heap.size, 0, none⟩)]] 128 := by rw [← hw4]; exact (hT3.blk hbu rfl).alloc _
  have hbh4 : Blk w4 w.heap.size #[.pointer (some ⟨x.hp, 0, none⟩)] 25 := by rw [← hw4]; exact (hT3.blk hbh rfl).alloc _
  have hbx4 : w4.cell? ⟨w3.heap.size, 0, none⟩ = some (.pointer (some ⟨x.hp, 0, none⟩)) := by rw [← hw4]; exact (Blk.new w3 _ _).cell 0
  obtain ⟨bx, hbx⟩ : ∃ bx, bx = w3.heap.size := ⟨_, rfl⟩
  rw [← hbx] at hbx4 ⊢
  have HO4 := Lib.hid hO4
  have HX4 := Lib.hid hx4
  clear hO4 hx4 hx3 hO3 hT3 hK3 hw4 hbx HE HO HX hbh hbu cU cH cU3 cH3
  obtain ⟨ya, yc, hyv, hy⟩ := rowP_of h.yrow
  obtain ⟨oa, oc, hov, ho⟩ := rowP_of h.orow
  have hyl : x.yb.length ≤ 100000 := by
    have h1 := bused_len (x.yb.map PB.b); rw [List.length_map, ← h.ok.yu] at h1; have := h.ok.yu1; have := h.ok.Y1; omega
  have hol : x.ob.length ≤ 100000 := by
    have h1 := bused_len (x.ob.map PB.b); rw [List.length_map, ← h.ok.ou] at h1; have := h.ok.ou1; have := h.ok.O1; omega
  have hkp4 : KeepP w w4 := fun k c t hb _ => HX4.out.blk hb id
  have hsq : SeqIs 8 Try.prog 66 #[.pointer (some ⟨bx, 0, none⟩)] (fun y : PB => #[y.ptr]) KeepP x.all w4 :=
    allF_is 8 (by omega) bx x.hp ya oa yc oc x.yb x.ob hyl hol hbx4 (by rw [(HX4.out.blk h.blk id).cell 3]; simp [PH.cells, hyv]) (by rw [(HX4.out.blk h.blk id).cell 7]; simp [PH.cells, hov]) (hy.keep hkp4) (ho.keep hkp4)
  have HSQ := Lib.hid hsq
  clear hsq hkp4
  gi_wp2_with fail
  refine rangeFunc_nth (gf := 66) (lb := #[.pointer (some ⟨bx, 0, none⟩)]) rfl (enters_of Try.func66 (by kernel_rfl) rfl) HSQ.out (fun h k => h.trans k) (fun W l o o' _ hl hc _ => KeepP.putObj hl hc o') (fun _ => rfl)
    (Loop1 w4 x f) (fun _ _ _ => False) (Loop1.own w4 x f) (fun _ _ _ _ _ hs _ _ => hs)
    ⟨TKeep.refl _ _, Keeps.refl _ _, fun i y hy => by rw [if_neg (by omega)]; exact HX4.out.blk (h.pbs y (List.mem_of_getElem? hy)).wo id⟩
    (fun y => { tmps := #[.pointer (some ⟨x.hp, 0, none⟩), v, .pointer (some ⟨w.heap.size, 0, none⟩), undef, .slice none 0 0, .pointer (some ⟨w.heap.size + 1, 0, none⟩), v', y.ptr, undef, .func (.func 81) #[] #[.pointer (some ⟨w.heap.size, 0, none⟩)], v, v', .func (.func 81) #[] #[.pointer (some ⟨w.heap.size, 0, none⟩)], v', .tuple #[], .pointer (some ⟨x.hp, 0, none⟩), .func (.func 66) #[] #[.pointer (some ⟨bx, 0, none⟩)], y.ptr, undef, undef, undef, undef, undef, undef, undef, undef, undef, undef, undef, undef, undef, undef, undef, undef, undef, undef, undef, undef, undef, undef, undef], defers := [] }) ?assign ?body ?done ?stop
  case assign =>
    intro l y W K hK
    gi_wp2
    exact hK
  case stop => exact fun D c k W _ _ h => h.elim
  case body =>
    intro l k y W hI hyk
    have hym := List.mem_of_getElem? hyk
    have hp4 := (HX4.out.blk (h.pbs y hym).st id)
    have hpW := hI.t.blk hp4 rfl
    have hbuW := hI.t.blk hbu4 rfl
    have HS : Hid (W.drew.cell? ⟨w.heap.size + 1, 0, none⟩ = some (.func (.func 81) #[] #[.pointer (some ⟨w.heap.size, 0, none⟩)]) ∧ W.drew.cell? ⟨y.p, 2, none⟩ = some (.slice (some ⟨y.arr, 0, none⟩) y.b.ws.length y.b.ws.length)) :=
      ⟨(hbuW.cell 0).trans rfl, (hpW.cell 2).trans rfl⟩
    have hwk := hI.ws k y hyk
    rw [if_neg (Nat.lt_irrefl k)] at hwk
    have HR : Hid (RowW W.drew y.arr y.b.ws (y.b.ws.length * 6)) := Lib.hid (rowW_of_blk hwk.drew)
    have HU := Lib.hid ((HE3.out y.b.ws (h.ref y hym)).keep hI.t.drew rfl rfl rfl)
    have hlen : y.b.ws.length ≤ 2000000 := by have := h.ok.len hym; omega
    have HB := Lib.hid (And.intro hbuW.drew hpW.drew)
    have HI := Lib.hid hI
    have Hyk := Lib.hid hyk
    have hT0 := Lib.hid (TKeep.refl TW W).drew
    have hK0 := Lib.hid (Keeps.refl (· = y.arr) W).drew
    clear hI hyk hwk hp4 hpW hbuW hbx4 hbu4 hbh4
    unfold PB.ptr
    gi_wp2
    refine region_S (fun V => V.cell? ⟨w.heap.size + 1, 0, none⟩ = some (.func (.func 81) #[] #[.pointer (some ⟨w.heap.size, 0, none⟩)]) ∧ V.cell? ⟨y.p, 2, none⟩ = some (.slice (some ⟨y.arr, 0, none⟩) y.b.ws.length y.b.ws.length)) 100 (by kernel_rfl) ?_
    generalize W.drew = W0 at HS HR HU HB hT0 hK0 ⊢
    refine anyS_quiet (a2 := ?a0) 0 rfl rfl rfl (by kernel_rfl) (by kernel_rfl) (by kernel_rfl) (by kernel_rfl) (by kernel_rfl) (by kernel_rfl) (fun _ _ _ _ h => h) HS.out ?h0 ?k0
    case h0 => intro W hW K hK; obtain ⟨d0, d1⟩ := hW; go_simp; exact hK
    refine anyS_quiet (a2 := ?a1) 1 rfl rfl rfl (by kernel_rfl) (by kernel_rfl) (by kernel_rfl) (by kernel_rfl) (by kernel_rfl) (by kernel_rfl) (fun _ _ _ _ h => h) HS.out ?h1 ?k1
    case h1 => intro W hW K hK; obtain ⟨d0, d1⟩ := hW; go_simp; exact hK
    refine anyS_quiet (a2 := ?a2) 2 rfl rfl rfl (by kernel_rfl) (by kernel_rfl) (by kernel_rfl) (by kernel_rfl) (by kernel_rfl) (by kernel_rfl) (fun _ _ _ _ h => h) HS.out ?h2 ?k2
    case h2 => intro W hW K hK; obtain ⟨d0, d1⟩ := hW; go_simp; exact hK
    refine anyS_quiet (a2 := ?a3) 3 rfl rfl rfl (by kernel_rfl) (by kernel_rfl) (by kernel_rfl) (by kernel_rfl) (by kernel_rfl) (by kernel_rfl) (fun _ _ _ _ h => h) HS.out ?h3 ?k3
    case h3 => intro W hW K hK; obtain ⟨d0, d1⟩ := hW; go_simp; exact hK
    refine anyS_quiet (a2 := ?a4) 4 rfl rfl rfl (by kernel_rfl) (by kernel_rfl) (by kernel_rfl) (by kernel_rfl) (by kernel_rfl) (by kernel_rfl) (fun _ _ _ _ h => h) HS.out ?h4 ?k4
    case h4 => intro W hW K hK; obtain ⟨d0, d1⟩ := hW; go_simp; exact hK
    refine anyS_only 5 rfl (by kernel_rfl) ?_
    gi_wp2_with fail
    refine (callsIn_WF (settleF_any HU.out HR.out hlen)).mono ?_
    rintro e W3 ⟨rfl, hR3, hT3, hK3⟩
    have HF := Lib.hid (HI.out.step h.arrs Hyk.out hR3 (hT0.out.trans hT3) (hK0.out.trans hK3))
    have HT3 := Lib.hid (hT0.out.trans hT3)
    have HS3 := Lib.hid (And.intro (((hT3.blk HB.out.1 rfl).cell 0).trans rfl) (((hT3.blk HB.out.2 rfl).cell 2).trans rfl) : W3.cell? ⟨w.heap.size + 1, 0, none⟩ = some (.func (.func 81) #[] #[.pointer (some ⟨w.heap.size, 0, none⟩)]) ∧ W3.cell? ⟨y.p, 2, none⟩ = some (.slice (some ⟨y.arr, 0, none⟩) y.b.ws.length y.b.ws.length))
    clear hR3 hT3 hK3
    gi_wp2
    refine And.intro (.inr HS3.out) ?_
    refine anyS_done (by kernel_rfl) ?_ _
    gi_wp2
    exact ⟨HT3.out.others.from _, HT3.out.keepP rfl rfl, HF.out⟩
  case done =>
    intro D1 W hD1 hI hK1
    have hbhW := hI.t.blk hbh4 rfl
    have hhpW := hI.t.blk (HX4.out.blk h.blk id) rfl
    have cB : W.cell? ⟨w.heap.size, 0, none⟩ = some (.pointer (some ⟨x.hp, 0, none⟩)) := (hbhW.cell 0).trans rfl
    obtain ⟨V, hV⟩ : ∃ V, W.alloc (.map #[] 0) = V := ⟨_, rfl⟩
    have hhpV : Blk V x.hp x.cells 81 := by rw [← hV]; exact hhpW.alloc _
    have cM : V.cell? ⟨x.hp, 8, none⟩ = some x.av := (hhpV.cell 8).trans rfl
    have fM : V.frozen? ⟨x.hp, 8, none⟩ = false := hhpV.frozen 8
    have hmm := run_makeMap (P := Try.prog) 78 W
    rw [hV] at hmm
    have hbhV : Blk V w.heap.size #[.pointer (some ⟨x.hp, 0, none⟩)] 25 := by rw [← hV]; exact hbhW.alloc _
    have cB6 : (V.setCell ⟨x.hp, 8, none⟩ (.map (some W.heap.size))).cell? ⟨w.heap.size, 0, none⟩ = some (.pointer (some ⟨x.hp, 0, none⟩)) := ((hbhV.far (hbhV.ne hhpV (by decide)) _).cell 0).trans rfl
    have HI := Lib.hid hI
    have HV := Lib.hid hV
    have HhpV := Lib.hid hhpV
    clear hI hV hhpV hhpW
    gi_wp2_with fail
    refine (callsIn_WF (all_any _ _)).mono ?_
    rintro e w7 ⟨rfl, hw7⟩
    gi_wp2_with fail
    obtain ⟨bz, hbz⟩ : ∃ bz, bz = V.heap.size := ⟨_, rfl⟩
    rw [← hbz] at ⊢
    have hV := HV.out
    have hI := HI.out
    have hhpW := hI.t.blk (HX4.out.blk h.blk id) rfl
    have t7 : TKeep (· == 81) W w7 := by rw [← hw7, ← hV]; exact (((TKeep.refl _ W).alloc _).setCell (hhpW.alloc _) rfl _).alloc _
    have k7 : Keeps (· = x.hp) W w7 := by rw [← hw7, ← hV]; exact (((Keeps.refl (· = x.hp) W).alloc _).setCell (p := ⟨x.hp, 8, none⟩) (.inl rfl) _).alloc _
    have hp7 : Blk w7 x.hp (x.moved f W.heap.size).cells 81 := by rw [← hw7]; exact (HhpV.out.set 8 _).alloc _
    have m7 : w7.heap[W.heap.size]? = some (.map #[] 0) := by
      rw [← hw7, ← hV]
      exact (Below.heap_alloc _ _ _ (by simp)).trans (heap_setCell_obj (World.alloc_heap_new _ _) rfl _ _)
    have bz7 : w7.cell? ⟨bz, 0, none⟩ = some (.pointer (some ⟨x.hp, 0, none⟩)) := by rw [← hw7, hbz, ← show (V.setCell ⟨x.hp, 8, none⟩ (.map (some W.heap.size))).heap.size = V.heap.size from by simp]; exact (Blk.new _ _ _).cell 0
    have hbh7 := t7.blk hbhW rfl
    have pb7 : ∀ y ∈ x.all, Blk w7 y.p y.cells 91 := fun y hy => t7.blk (hI.t.blk (HX4.out.blk (h.pbs y hy).st id) rfl) rfl
    have ws7 : ∀ y ∈ x.all, Blk w7 y.arr (flat (y.b.ws.map (mvW f))) 33 := fun y hy => by
      obtain ⟨i, hi⟩ := List.mem_iff_getElem?.1 hy
      have := hI.ws i y hi
      rw [if_pos (List.getElem?_eq_some_iff.1 hi).1] at this
      exact t7.blk this rfl
    have D7 : w7.heap[D1]? = some (.deferred (some [])) := t7.obj hK1 rfl
    have row7 : w7.ownsRow w.heap.size 33 6 v' roots.length (flatL (roots.map (mvW f))) := by
      refine t7.row (ownsRow_keeps HO4.out fun k hk => hI.kp.block k (HO4.out.lt k hk).2 fun e => ?_) rfl
      obtain ⟨y, hy, e⟩ := List.mem_map.1 e
      have := (h.pbs y hy).wo.lt; have := HG.out k hk; omega
    have kp7 : KeepP w w7 := KeepP.trans (KeepP.trans (fun k c t hb _ => HX4.out.blk hb id) (hI.t.keepP rfl rfl)) (t7.keepP rfl rfl)
    have kk7 : Keeps (fun k => k = x.hp ∨ k ∈ x.all.map PB.arr) w w7 :=
      ((HX4.out.mono fun _ _ e => e.elim).trans (hI.kp.mono fun _ _ e => .inr e)).trans (k7.mono fun _ _ e => .inl e)
    have hsq : SeqIs 8 Try.prog 66 #[.pointer (some ⟨bz, 0, none⟩)] (fun y : PB => #[y.ptr]) KeepP x.all w7 :=
      allF_is 8 (by omega) bz x.hp ya oa yc oc x.yb x.ob hyl hol bz7 (by rw [hp7.cell 3]; simp [PH.cells, PH.moved, hyv]) (by rw [hp7.cell 7]; simp [PH.cells, PH.moved, hov]) (hy.keep kp7) (ho.keep kp7)
    obtain ⟨m, hm⟩ : ∃ m, m = W.heap.size := ⟨_, rfl⟩
    have hmw : w.heap.size ≤ m := by have := HX4.out.size; have := hI.t.size; omega
    have hm7 : m < w7.heap.size := by rw [hm]; exact (Array.getElem?_eq_some_iff.1 m7).1
    rw [← hm] at m7 hp7 ⊢
    have Hsq := Lib.hid hsq; have Hpb := Lib.hid pb7; have Hws := Lib.hid ws7; have Hkk := Lib.hid kk7; have Hrow := Lib.hid row7; have HD := Lib.hid (And.intro D7 hD1)
    have Hbh := Lib.hid hbh7; have Hhp := Lib.hid hp7; have Hm := Lib.hid m7
    have hD17 : D1 < w7.heap.size := (Array.getElem?_eq_some_iff.1 D7).1
    clear hm hsq pb7 ws7 kk7 row7 D7 hbh7 hp7 m7 hw7 hV hI hhpW t7 k7 bz7 kp7 HI HV HhpV hmm cM fM hbhV cB6 hbz hbh4 hbx4 hbu4 hbhW cB hK1
    refine rangeFunc_nth (gf := 66) (lb := #[.pointer (some ⟨bz, 0, none⟩)]) rfl (enters_of Try.func66 (by kernel_rfl) rfl) Hsq.out (fun h k => h.trans k) (fun W l o o' _ hl hc _ => KeepP.putObj hl hc o') (fun _ => rfl)
      (Loop2 w7 x m) (fun _ _ _ => False) (Loop2.own w7 x hm7) (fun _ _ _ _ _ hs _ _ => hs)
      ⟨Keeps.refl _ _, #[], 0, Hm.out, IntEs.empty 0, fun j => rfl⟩
      (fun y => { tmps := #[.pointer (some ⟨x.hp, 0, none⟩), v, .pointer (some ⟨w.heap.size, 0, none⟩), undef, .slice none 0 0, .pointer (some ⟨w.heap.size + 1, 0, none⟩), v', undef, y.ptr, .func (.func 81) #[] #[.pointer (some ⟨w.heap.size, 0, none⟩)], v, v', .func (.func 81) #[] #[.pointer (some ⟨w.heap.size, 0, none⟩)], v', .tuple #[], .pointer (some ⟨x.hp, 0, none⟩), .func (.func 66) #[] #[.pointer (some ⟨bx, 0, none⟩)], undef, undef, undef, undef, undef, undef, undef, .pointer (some ⟨x.hp, 0, none⟩), .map (some m), .pointer (some ⟨x.hp, 0, none⟩), .pointer (some ⟨x.hp, 8, none⟩), .pointer (some ⟨x.hp, 0, none⟩), .func (.func 66) #[] #[.pointer (some ⟨bz, 0, none⟩)], y.ptr, undef, undef, undef, undef, undef, undef, undef, undef, undef, undef], defers := [] }) ?assign ?body ?done ?stop
    case assign =>
      intro l y W K hK
      gi_wp2
      exact hK
    case stop => exact fun D c k W _ _ h => h.elim
    case body =>
      intro l k y X hI hyk
      have hym := List.mem_of_getElem? hyk
      have hne : ∀ {k c t}, Blk w7 k c t → Blk X k c t := fun hb => hI.kp.blk hb (by
        rintro rfl
        have := Hm.out; unfold Blk at hb; rw [this] at hb; cases hb)
      have hbX := hne Hbh.out
      have hpX := hne (Hpb.out y hym)
      have hhX := hne Hhp.out
      obtain ⟨es, c, he1, he2, he3⟩ := hI.ex
      obtain ⟨es', c', hrun, he', hg', -, -⟩ := run_mapUpdate_int (P := Try.prog) Try.underlying78 (q := .i64) Try.underlying3 m he2 y.b.at_ y.ptr
      have hS : X.drew.cell? ⟨w.heap.size, 0, none⟩ = some (.pointer (some ⟨x.hp, 0, none⟩)) ∧ X.drew.cell? ⟨x.hp, 8, none⟩ = some (.map (some m)) ∧ X.drew.cell? ⟨y.p, 0, none⟩ = some (.int .i64 y.b.at_) := ⟨(hbX.cell 0).trans rfl, (hhX.cell 8).trans rfl, (hpX.cell 0).trans rfl⟩
      have hm1 : X.drew.heap[m]? = some (.map es c) := he1
      have hS2 : (X.drew.putObj m (.map es' c')).cell? ⟨w.heap.size, 0, none⟩ = some (.pointer (some ⟨x.hp, 0, none⟩)) ∧ (X.drew.putObj m (.map es' c')).cell? ⟨x.hp, 8, none⟩ = some (.map (some m)) ∧ (X.drew.putObj m (.map es' c')).cell? ⟨y.p, 0, none⟩ = some (.int .i64 y.b.at_) := ⟨cell_putObj hm1 _ hS.1, cell_putObj hm1 _ hS.2.1, cell_putObj hm1 _ hS.2.2⟩
      have HF := Lib.hid (And.intro (Loop2.step h.ok.ats hyk hI.kp.drew hm1 he3 he' hg') (And.intro (KeepP.trans (fun _ _ _ hb _ => hb.drew) (KeepP.putObj hm1 rfl (.map es' c')) : KeepP X _) (⟨by simp, fun j o hj hh ho => (World.putObj_heap_other (by omega)).trans hh⟩ : KeepsFrom w7.heap.size X (X.drew.putObj m (.map es' c')))))
      have HS := Lib.hid hS; have HS2 := Lib.hid hS2; have Hrun := Lib.hid (hrun X.drew hm1)
      clear hrun hg' he' he3 he2 he1 hm1 hI hyk hbX hpX hhX hS hS2 hne
      unfold PB.ptr at *
      gi_wp2
      refine region_S (fun V => V.cell? ⟨w.heap.size, 0, none⟩ = some (.pointer (some ⟨x.hp, 0, none⟩)) ∧ V.cell? ⟨x.hp, 8, none⟩ = some (.map (some m)) ∧ V.cell? ⟨y.p, 0, none⟩ = some (.int .i64 y.b.at_)) 100 (by kernel_rfl) ?_
      generalize X.drew = W0 at HS HS2 Hrun HF ⊢
      refine anyS_quiet (a2 := ?ab_0) 0 rfl rfl rfl (by kernel_rfl) (by kernel_rfl) (by kernel_rfl) (by kernel_rfl) (by kernel_rfl) (by kernel_rfl) (fun _ _ _ _ h => h) HS.out ?hb_0 ?kb_0
      case hb_0 => intro W hW K hK; obtain ⟨d0, d1, d2⟩ := hW; go_simp; exact hK
      refine anyS_quiet (a2 := ?ab_1) 1 rfl rfl rfl (by kernel_rfl) (by kernel_rfl) (by kernel_rfl) (by kernel_rfl) (by kernel_rfl) (by kernel_rfl) (fun _ _ _ _ h => h) HS.out ?hb_1 ?kb_1
      case hb_1 => intro W hW K hK; obtain ⟨d0, d1, d2⟩ := hW; go_simp; exact hK
      refine anyS_quiet (a2 := ?ab_2) 2 rfl rfl rfl (by kernel_rfl) (by kernel_rfl) (by kernel_rfl) (by kernel_rfl) (by kernel_rfl) (by kernel_rfl) (fun _ _ _ _ h => h) HS.out ?hb_2 ?kb_2
      case hb_2 => intro W hW K hK; obtain ⟨d0, d1, d2⟩ := hW; go_simp; exact hK
      refine anyS_quiet (a2 := ?ab_3) 3 rfl rfl rfl (by kernel_rfl) (by kernel_rfl) (by kernel_rfl) (by kernel_rfl) (by kernel_rfl) (by kernel_rfl) (fun _ _ _ _ h => h) HS.out ?hb_3 ?kb_3
      case hb_3 => intro W hW K hK; obtain ⟨d0, d1, d2⟩ := hW; go_simp; exact hK
      refine anyS_quiet (a2 := ?ab_4) 4 rfl rfl rfl (by kernel_rfl) (by kernel_rfl) (by kernel_rfl) (by kernel_rfl) (by kernel_rfl) (by kernel_rfl) (fun _ _ _ _ h => h) HS.out ?hb_4 ?kb_4
      case hb_4 => intro W hW K hK; obtain ⟨d0, d1, d2⟩ := hW; go_simp; exact hK
      refine anyS_quiet (a2 := ?ab_5) 5 rfl rfl rfl (by kernel_rfl) (by kernel_rfl) (by kernel_rfl) (by kernel_rfl) (by kernel_rfl) (by kernel_rfl) (fun _ _ _ _ h => h) HS.out ?hb_5 ?kb_5
      case hb_5 => intro W hW K hK; obtain ⟨d0, d1, d2⟩ := hW; go_simp; exact hK
      refine anyS_quiet (a2 := ?ab_6) 6 rfl rfl rfl (by kernel_rfl) (by kernel_rfl) (by kernel_rfl) (by kernel_rfl) (by kernel_rfl) (by kernel_rfl) (fun _ _ _ _ h => h) HS.out ?hb_6 ?kb_6
      case hb_6 => intro W hW K hK; obtain ⟨d0, d1, d2⟩ := hW; go_simp; exact hK
      refine anyS_quiet (a2 := ?ab_7) 7 rfl rfl rfl (by kernel_rfl) (by kernel_rfl) (by kernel_rfl) (by kernel_rfl) (by kernel_rfl) (by kernel_rfl) (fun _ _ _ _ h => h) HS.out ?hb_7 ?kb_7
      case hb_7 => intro W hW K hK; obtain ⟨d0, d1, d2⟩ := hW; go_simp; exact hK
      refine anyS_quiet (a2 := ?ab_8) 8 rfl rfl rfl (by kernel_rfl) (by kernel_rfl) (by kernel_rfl) (by kernel_rfl) (by kernel_rfl) (by kernel_rfl) (fun _ _ _ _ h => h) HS.out ?hb_8 ?kb_8
      case hb_8 => intro W hW K hK; obtain ⟨d0, d1, d2⟩ := hW; go_simp; exact hK
      refine anyS_only 9 rfl (by kernel_rfl) ?_
      refine wpListIn_skip rfl (fun c e => by cases e) (w2 := W0.putObj m (.map es' c')) ?_ ?_
      · simp [execOp, go_sem, Hrun.out, Result.andThen]
      unfold wpListIn
      refine And.intro (.inr HS2.out) ?_
      refine anyS_done (by kernel_rfl) ?_ _
      gi_wp2
      exact ⟨HF.out.2.2, HF.out.2.1, HF.out.1⟩
    case done =>
      intro D2 X hD2 hI hK2
      obtain ⟨X2, hX2⟩ : ∃ X2, X.putObj D2 (.deferred none) = X2 := ⟨_, rfl⟩
      have hD1X : X.heap[D1]? = some (.deferred (some [])) := hI.kp.obj HD.out.1 (by
        rintro rfl
        have := HD.out.1; rw [Hm.out] at this; cases this)
      have hne12 : D1 ≠ D2 := by omega
      have hD1X2 : X2.heap[D1]? = some (.deferred (some [])) := by rw [← hX2]; exact (World.putObj_heap_other hne12).trans hD1X
      obtain ⟨X3, hX3⟩ : ∃ X3, X2.putObj D1 (.deferred none) = X3 := ⟨_, rfl⟩
      have hDm : D1 ≠ m := by
        rintro rfl
        have := HD.out.1; rw [Hm.out] at this; cases this
      have hcell : ∀ {k c t}, Blk w7 k c t → Blk X3 k c t := fun {k c t} hb => by
        have h1 : k ≠ m := by rintro rfl; have := Hm.out; unfold Blk at hb; rw [hb] at this; cases this
        have h2 : k ≠ D1 := by rintro rfl; have := HD.out.1; unfold Blk at hb; rw [hb] at this; cases this
        have h3 : k ≠ D2 := by have := hb.lt; omega
        rw [← hX3, ← hX2]
        exact ((hI.kp.blk hb h1).putObj h3 _).putObj h2 _
      have hkk : Keeps (fun k => k = m ∨ k = D1 ∨ k = D2) w7 X3 := by
        rw [← hX3, ← hX2]
        exact ((hI.kp.mono fun _ _ e => .inl e).putObj (.inl (.inr (.inr rfl))) _).putObj (.inl (.inr (.inl rfl))) _
      have hge : ∀ k, k = m ∨ k = D1 ∨ k = D2 → w.heap.size ≤ k := fun k e => by
        have := HX4.out.size; have := HD.out.2
        rcases e with rfl | rfl | rfl <;> omega
      have hfin : Keeps (fun k => k = x.hp ∨ k ∈ x.all.map PB.arr) w X3 := Hkk.out.trans' hkk fun k hk e => by have := hge k e; omega
      have hrow3 : X3.ownsRow w.heap.size 33 6 v' roots.length (flatL (roots.map (mvW f))) := ownsRow_keeps Hrow.out fun k e => by
        obtain ⟨cur, hc⟩ := ownsRow_type Hrow.out e
        exact (hcell hc).trans hc.symm
      have hmap3 : ∃ es ck, X3.heap[m]? = some (.map es ck) ∧ IntEs es ck ∧ ∀ j, esGet es.toList j = atOf x.all j := by
        obtain ⟨es, c, h1, h2, h3⟩ := hI.ex
        refine ⟨es, c, ?_, h2, fun j => by rw [h3 j, List.take_length]⟩
        rw [← hX3, ← hX2]
        exact (World.putObj_heap_other (Ne.symm hDm)).trans ((World.putObj_heap_other (by omega)).trans h1)
      have HF : Hid (∃ v2 m, v' = v2 ∧ X3.ownsRow w.heap.size 33 6 v2 roots.length (flatL (roots.map (mvW f))) ∧ HRep X3 base (x.moved f m) ∧ Keeps x.fp w X3 ∧ w.heap.size ≤ m) :=
        ⟨v', m, rfl, hrow3, h.done (by have := h.base_ x.hp (.inl rfl); have := h.blk.lt; omega) hmw (hcell Hhp.out) hfin (fun y hy => hcell (Hws.out y hy)) hmap3,
          hfin.mono (fun k _ e => by rcases e with e | e; exact .inl e; exact .inr (.inr (.inr (.inr (.inr (.inr e)))))), hmw⟩
      obtain ⟨va, vc, rfl⟩ := own_slice hrow3
      have T2 := run_takeDeferred (P := Try.prog) hK2
      have T1 := run_takeDeferred (P := Try.prog) hD1X2
      rw [hX2] at T2
      rw [hX3] at T1
      clear hcell hkk hge hfin hrow3 hmap3 hD1X2 hD1X hI hX2 hX3 hK2
      gi_wp2
      refine ⟨by simp, .inl ⟨_, _, rfl, T2, by simp, .inl ⟨_, _, rfl, T1, ?_⟩⟩⟩
      obtain ⟨v2, m2, e2, h2⟩ := HF.out
      exact ⟨_, results_tmp rfl _ _ _, v2, m2, by rw [← e2]; rfl, h2⟩
end Go.Proofs.Ytikigppfnhilhaa
