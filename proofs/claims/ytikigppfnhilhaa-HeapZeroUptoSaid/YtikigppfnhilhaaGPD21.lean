/- What a major collection starts with and does block by block. -/
import Derived.Test.YtikigppfnhilhaaGPD20
/- What a major collection starts with and does block by block. -/
namespace Go.Proofs.Ytikigppfnhilhaa
open Go.RowKit Go.Instr
set_option linter.unusedVariables false
set_option linter.unusedSimpArgs false

theorem keptPB_le2 (K l : List PB) : bused ((keptPB K l).map PB.b) ≤ bused (l.map PB.b) := by
  unfold keptPB
  induction l with
  | nil => simp [bused]
  | cons y l ih =>
    rw [List.filter_cons]
    split
    · rw [List.map_cons, List.map_cons, bused_cons, bused_cons]; omega
    · rw [List.map_cons, bused_cons]; omega
def fitsPB (room : Int) : List PB → List PB × List PB
  | [] => ([], [])
  | y :: l => if (y.b.ws.length : Int) + 1 ≤ room then (y :: (fitsPB (room - (y.b.ws.length + 1)) l).1, (fitsPB (room - (y.b.ws.length + 1)) l).2) else ([], y :: l)
theorem fitsPB_map (room : Int) (l : List PB) : (fitsPB room l).1.map PB.b = (fits room (l.map PB.b)).1 ∧ (fitsPB room l).2.map PB.b = (fits room (l.map PB.b)).2 := by
  induction l generalizing room with
  | nil => exact ⟨rfl, rfl⟩
  | cons y l ih =>
    simp only [fitsPB, List.map_cons, fits]
    split
    · exact ⟨by simp [(ih _).1], (ih _).2⟩
    · exact ⟨rfl, rfl⟩
theorem fitsPB_append (room : Int) (l : List PB) : (fitsPB room l).1 ++ (fitsPB room l).2 = l := by
  induction l generalizing room with
  | nil => rfl
  | cons y l ih =>
    simp only [fitsPB]
    split
    · simp [ih]
    · rfl
theorem fitsPB_used (room : Int) (h : 0 ≤ room) (l : List PB) : bused ((fitsPB room l).1.map PB.b) ≤ room := by
  induction l generalizing room with
  | nil => simpa [fitsPB, bused] using h
  | cons y l ih =>
    simp only [fitsPB]
    split
    · rw [List.map_cons, bused_cons]; have := ih (room - (y.b.ws.length + 1)) (by omega); omega
    · simpa [bused] using h
theorem fitsPB_snoc (room : Int) (l : List PB) (y : PB) : fitsPB room (l ++ [y]) =
    if (fitsPB room l).2 = [] then (if (y.b.ws.length : Int) + 1 ≤ room - bused ((fitsPB room l).1.map PB.b) then ((fitsPB room l).1 ++ [y], []) else ((fitsPB room l).1, [y])) else ((fitsPB room l).1, (fitsPB room l).2 ++ [y]) := by
  induction l generalizing room with
  | nil => simp [fitsPB, bused]
  | cons z l ih =>
    simp only [List.cons_append, fitsPB]
    by_cases hz : (z.b.ws.length : Int) + 1 ≤ room
    · simp only [if_pos hz]
      rw [ih]
      by_cases h2 : (fitsPB (room - (z.b.ws.length + 1)) l).2 = []
      · simp only [if_pos h2, List.map_cons, bused_cons]
        have e : room - (z.b.ws.length + 1) - bused ((fitsPB (room - (z.b.ws.length + 1)) l).1.map PB.b) = room - (z.b.ws.length + 1 + bused ((fitsPB (room - (z.b.ws.length + 1)) l).1.map PB.b)) := by omega
        rw [e]
        split <;> rfl
      · simp only [if_neg h2]
    · simp only [if_neg hz]
      rw [if_neg (by simp)]; rfl

/-- The heap with both generations empty. -/
def PH.noBoth (x : PH) : PH := { x with fy := 1, yu := 0, yv := .slice none 0 0, yb := [], fo := x.Y + 1, ou := 0, ov := .slice none 0 0, ob := [] }
theorem Half.resetOld {w0 : World} {x0 : PH} {W V : World} {base : Nat} {x : PH} {pend : List PB} (h : Half w0 x0 W base x pend) (hv : V = (((W.setCell ⟨x.hp, 4, none⟩ (.int .i64 (x.Y + 1))).setCell ⟨x.hp, 5, none⟩ (.int .i64 x.O)).setCell ⟨x.hp, 6, none⟩ (.int .i64 0)).setCell ⟨x.hp, 7, none⟩ (.slice none 0 0)) :
    Half w0 x0 V base { x with fo := x.Y + 1, ou := 0, ov := .slice none 0 0, ob := [] } (x.ob ++ pend) := by
  have hk : Keeps (· = x.hp) W V := by
    rw [hv]
    exact ((((Keeps.refl (· = x.hp) W).setCell (p := ⟨x.hp, 4, none⟩) (.inl rfl) _).setCell (p := ⟨x.hp, 5, none⟩) (.inl rfl) _).setCell (p := ⟨x.hp, 6, none⟩) (.inl rfl) _).setCell (p := ⟨x.hp, 7, none⟩) (.inl rfl) _
  have hall : ({ x with fo := x.Y + 1, ou := 0, ov := .slice none 0 0, ob := [] } : PH).all ++ (x.ob ++ pend) = x.all ++ pend := by simp [PH.all]
  exact
    { hp := h.hp
      blk := by
        have := (((h.blk.set 4 (.int .i64 (x.Y + 1))).set 5 (.int .i64 x.O)).set 6 (.int .i64 0)).set 7 (.slice none 0 0)
        rw [hv]; simpa [PH.cells] using this
      yrow := ownsRow_keeps h.yrow fun k hk' => by
        obtain ⟨cur, hc⟩ := ownsRow_type h.yrow hk'
        exact hk.block k hc.lt (hc.ne h.blk (by decide))
      orow := World.ownsRow_nil _ _ _ _
      rows := fun k _ e => by simp [Value.ownBlock] at e
      yown := h.yown
      oown := fun k e => by simp [Value.ownBlock] at e
      kp := h.kp.trans' hk fun k _ e => .inl (e.trans h.hp)
      pbs := fun y hy => by
        rw [hall] at hy
        have hp := h.pbs y hy
        exact ⟨hk.blk hp.st (hp.st.ne h.blk (by decide)), hk.blk hp.wo (hp.wo.ne h.blk (by decide))⟩
      ps := by rw [hall]; exact h.ps
      sub := fun y hy => h.sub y (by rw [hall] at hy; exact hy)
      ok := { h.ok with ou := rfl, ou1 := h.ok.O0, fo := fun _ => rfl, do_ := trivial }
      base_ := h.base_
      lie := fun z hz => let ⟨c, hc⟩ := h.lie z hz; ⟨c, hk.blk hc (hc.ne h.blk (by decide))⟩ }
theorem Half.box {w0 : World} {x0 : PH} {W : World} {base b0 : Nat} {x1 : PH} {pend : List PB} (h0 : HRep w0 b0 x0) (hf : Half w0 x0 W base x1 pend) {b : Nat} {c : Array Value} {t : TypeId} (hb : Blk w0 b c t) (h1 : t ≠ 81) (h2 : t ≠ 91) (h3 : t ≠ 89) : Blk W b c t := by
  refine hf.kp.blk hb ?_
  rintro (e | e | e)
  · exact (hb.ne h0.blk h1) e
  · obtain ⟨z, hz, e⟩ := List.mem_map.1 e
    exact (hb.ne (h0.pbs z hz).st h2) e.symm
  · obtain ⟨cur, hc⟩ := ownsRow_type h0.orow e.symm
    exact (hb.ne hc h3) rfl

/-- Nothing but the heap and the blocks' structs has been written. -/
structure Fine (w0 : World) (x : PH) (W : World) (ov : Value) : Prop where
  kp : Keeps (fun k => k = x.hp ∨ k ∈ x.all.map PB.p) w0 W
  own : ∀ k, ov.ownBlock = some k → w0.heap.size ≤ k
theorem Fine.push {w0 : World} {x : PH} {W W' : World} {ov v' : Value} (h : Fine w0 x W ov) {y : PB} (hy : y ∈ x.all) (hk : Keeps (fun k => k = x.hp ∨ k = y.p ∨ ov.ownBlock = some k) W W') (ho : ∀ k, v'.ownBlock = some k → ov.ownBlock = some k ∨ W.heap.size ≤ k) : Fine w0 x W' v' :=
  ⟨h.kp.trans' hk fun k hk e => by
    rcases e with e | e | e
    · exact .inl e
    · exact .inr (by rw [e]; exact List.mem_map_of_mem hy)
    · have := h.own k e; omega, fun k e => (ho k e).elim (h.own k) fun h2 => Nat.le_trans h.kp.size h2⟩

/-- The old blocks: k have been looked at. -/
def PH.majA (x : PH) (K : List PB) (k : Nat) (ov : Value) : PH :=
  { x.noBoth with ou := bused ((keptPB K (x.ob.take k)).map PB.b), ov := ov, ob := shiftPB (x.Y + 1) (keptPB K (x.ob.take k)) }
theorem PH.majA_zero (x : PH) (K : List PB) : x.majA K 0 (.slice none 0 0) = x.noBoth := by
  simp [PH.majA, keptPB, shiftPB, bused, PH.noBoth]
theorem PH.majA_skip {x : PH} {K : List PB} {k : Nat} {ov : Value} {y : PB} (hy : x.ob[k]? = some y) (hn : y.p ∉ K.map PB.p) : x.majA K (k + 1) ov = x.majA K k ov := by
  unfold PH.majA; rw [keptPB_step hy, if_neg hn]
theorem PH.majA_step {x : PH} {K : List PB} {k : Nat} {ov ov' : Value} {y : PB} (hy : x.ob[k]? = some y) (hk : y.p ∈ K.map PB.p) :
    { x.majA K k ov with ou := (x.majA K k ov).ou + (y.b.ws.length + 1), ov := ov', ob := (x.majA K k ov).ob ++ [y.to ((x.majA K k ov).Y + 1 + (x.majA K k ov).ou)] } = x.majA K (k + 1) ov' := by
  unfold PH.majA
  rw [keptPB_step hy, if_pos hk, shiftPB_append, List.map_append, bused_append]
  simp [PH.noBoth, bused, shiftPB]
/-- The young blocks: k have been looked at. -/
def PH.fitAt (x : PH) (K : List PB) (k : Nat) : List PB × List PB := fitsPB (x.O - bused ((keptPB K x.ob).map PB.b)) (keptPB K (x.yb.take k))
def PH.majB (x : PH) (K : List PB) (k : Nat) (yv ov : Value) : PH :=
  { x.noBoth with ou := bused ((keptPB K x.ob).map PB.b) + bused ((x.fitAt K k).1.map PB.b), ov := ov, ob := shiftPB (x.Y + 1) (keptPB K x.ob ++ (x.fitAt K k).1), yu := bused ((x.fitAt K k).2.map PB.b), yv := yv, yb := shiftPB 1 (x.fitAt K k).2 }
theorem PH.majB_zero (x : PH) (K : List PB) (ov : Value) : x.majB K 0 (.slice none 0 0) ov = x.majA K x.ob.length ov := by
  simp [PH.majB, PH.majA, PH.fitAt, fitsPB, keptPB, shiftPB, bused, PH.noBoth]
theorem PH.fitAt_skip {x : PH} {K : List PB} {k : Nat} {y : PB} (hy : x.yb[k]? = some y) (hn : y.p ∉ K.map PB.p) : x.fitAt K (k + 1) = x.fitAt K k := by
  unfold PH.fitAt; rw [keptPB_step hy, if_neg hn]
theorem PH.fitAt_step {x : PH} {K : List PB} {k : Nat} {y : PB} (hy : x.yb[k]? = some y) (hk : y.p ∈ K.map PB.p) :
    x.fitAt K (k + 1) = if (x.fitAt K k).2 = [] then (if (y.b.ws.length : Int) + 1 ≤ x.O - bused ((keptPB K x.ob).map PB.b) - bused ((x.fitAt K k).1.map PB.b) then ((x.fitAt K k).1 ++ [y], []) else ((x.fitAt K k).1, [y])) else ((x.fitAt K k).1, (x.fitAt K k).2 ++ [y]) := by
  unfold PH.fitAt; rw [keptPB_step hy, if_pos hk, fitsPB_snoc]
theorem PH.majB_skip {x : PH} {K : List PB} {k : Nat} {yv ov : Value} {y : PB} (hy : x.yb[k]? = some y) (hn : y.p ∉ K.map PB.p) : x.majB K (k + 1) yv ov = x.majB K k yv ov := by
  unfold PH.majB; rw [PH.fitAt_skip hy hn]
theorem PH.majB_old {x : PH} {K : List PB} {k : Nat} {yv ov ov' : Value} {y : PB} (he : x.fitAt K (k + 1) = ((x.fitAt K k).1 ++ [y], (x.fitAt K k).2)) :
    { x.majB K k yv ov with ou := (x.majB K k yv ov).ou + (y.b.ws.length + 1), ov := ov', ob := (x.majB K k yv ov).ob ++ [y.to ((x.majB K k yv ov).Y + 1 + (x.majB K k yv ov).ou)] } = x.majB K (k + 1) yv ov' := by
  unfold PH.majB
  rw [he, List.map_append, bused_append, ← List.append_assoc, shiftPB_append _ (keptPB K x.ob ++ (x.fitAt K k).1) [y], List.map_append, bused_append]
  simp [PH.noBoth, bused, shiftPB, Int.add_assoc]
theorem PH.majB_young {x : PH} {K : List PB} {k : Nat} {yv yv' ov : Value} {y : PB} (he : x.fitAt K (k + 1) = ((x.fitAt K k).1, (x.fitAt K k).2 ++ [y])) :
    { x.majB K k yv ov with yu := (x.majB K k yv ov).yu + (y.b.ws.length + 1), yv := yv', yb := (x.majB K k yv ov).yb ++ [y.to (1 + (x.majB K k yv ov).yu)] } = x.majB K (k + 1) yv' ov := by
  unfold PH.majB
  rw [he, List.map_append, bused_append, shiftPB_append 1 (x.fitAt K k).2 [y]]
  simp [PH.noBoth, bused, shiftPB]

theorem bused_kept_ob {x : PH} (h : x.Ok) (K : List PB) : bused ((keptPB K x.ob).map PB.b) ≤ x.O := by
  have h1 := keptPB_le2 K x.ob; have := h.ou; have := h.ou1; omega
theorem bused_kept_yb {x : PH} (h : x.Ok) (K : List PB) : bused ((keptPB K x.yb).map PB.b) ≤ x.Y := by
  have h1 := keptPB_le2 K x.yb; have := h.yu; have := h.yu1; omega
theorem fitAt_room {x : PH} (h : x.Ok) {K : List PB} {k : Nat} {y : PB} (hy : x.yb[k]? = some y) (hk : y.p ∈ K.map PB.p) : bused ((x.fitAt K k).2.map PB.b) + (y.b.ws.length + 1) ≤ x.Y := by
  have h1 := bused_kept_yb h K
  have h2 := keptPB_le K x.yb (k + 1)
  rw [keptPB_step hy, if_pos hk, List.map_append, bused_append] at h2
  have h3 : bused ([y].map PB.b) = y.b.ws.length + 1 := by simp [bused]
  have h4 := fitsPB_append (x.O - bused ((keptPB K x.ob).map PB.b)) (keptPB K (x.yb.take k))
  rw [← h4, List.map_append, bused_append] at h2
  have h5 := bused_nonneg ((fitsPB (x.O - bused ((keptPB K x.ob).map PB.b)) (keptPB K (x.yb.take k))).1.map PB.b)
  unfold PH.fitAt
  omega
theorem majB_ou {x : PH} (h : x.Ok) (K : List PB) (k : Nat) (yv ov : Value) : 0 ≤ (x.majB K k yv ov).ou ∧ (x.majB K k yv ov).ou ≤ x.O := by
  have h1 := bused_kept_ob h K
  have h2 := fitsPB_used (x.O - bused ((keptPB K x.ob).map PB.b)) (by omega) (keptPB K (x.yb.take k))
  have h3 := bused_nonneg ((keptPB K x.ob).map PB.b)
  have h4 := bused_nonneg ((x.fitAt K k).1.map PB.b)
  show 0 ≤ bused ((keptPB K x.ob).map PB.b) + bused ((x.fitAt K k).1.map PB.b) ∧ bused ((keptPB K x.ob).map PB.b) + bused ((x.fitAt K k).1.map PB.b) ≤ x.O
  unfold PH.fitAt at *
  omega
theorem major_closed {x : PH} (hps : (x.all.map PB.p).Nodup) {roots : List Wd} {K : List PB} (hK : ∀ y, y ∈ K ↔ Rch x.find (fun _ => true) roots y) (hKs : ∀ y ∈ K, y ∈ x.all) {u : Wd} (hu : refW u ≠ 0) (hb : x.log.bad u = false)
    (hsrc : u ∈ roots ∨ ∃ y ∈ x.all, y.p ∈ K.map PB.p ∧ u ∈ y.b.ws) : ∃ z ∈ x.all, z.p ∈ K.map PB.p ∧ x.find (refW u) = some z := by
  obtain ⟨z, hz⟩ := not_bad hb hu
  have hzm := (PH.find_mem hz).1
  refine ⟨z, hzm, (mem_K hps hKs hzm).2 ((hK z).2 ?_), hz⟩
  rcases hsrc with hr | ⟨y, hy, hyK, huy⟩
  · exact .root hr hz rfl
  · exact .step ((hK y).1 ((mem_K hps hKs hy).1 hyK)) huy hz rfl

/-- A new, empty set of remembered blocks. -/
theorem HRep.newRv {W : World} {base : Nat} {x : PH} (h : HRep W base x) : HRep ((W.alloc (.map #[] 0)).setCell ⟨x.hp, 9, none⟩ (.map (some W.heap.size))) base { x with rv := .map (some W.heap.size), R := [] } := by
  have hk : Keeps (· = x.hp) W ((W.alloc (.map #[] 0)).setCell ⟨x.hp, 9, none⟩ (.map (some W.heap.size))) := ((Keeps.refl (· = x.hp) W).alloc _).setCell (p := ⟨x.hp, 9, none⟩) (.inl rfl) _
  have hhp := h.blk.lt
  have hm9 : ∀ (m : Nat) (es : Array MapEntry) (ck : Nat), W.heap[m]? = some (Obj.map es ck) → ((W.alloc (.map #[] 0)).setCell ⟨x.hp, 9, none⟩ (.map (some W.heap.size))).heap[m]? = some (Obj.map es ck) := fun m es ck hm => by
    refine (hk.block m (Array.getElem?_eq_some_iff.1 hm).1 ?_).trans hm
    rintro rfl
    have := h.blk; unfold Blk at this; rw [hm] at this; cases this
  exact
    { blk := by
        have := (h.blk.alloc (.map #[] 0)).set 9 (.map (some W.heap.size))
        simpa [PH.cells] using this
      yrow := ownsRow_keeps h.yrow fun k hk' => by
        obtain ⟨cur, hc⟩ := ownsRow_type h.yrow hk'
        exact hk.block k hc.lt (hc.ne h.blk (by decide))
      orow := ownsRow_keeps h.orow fun k hk' => by
        obtain ⟨cur, hc⟩ := ownsRow_type h.orow hk'
        exact hk.block k hc.lt (hc.ne h.blk (by decide))
      rows := h.rows
      amap := by
        obtain ⟨es, ck, hm, r⟩ := h.amap
        refine ⟨es, ck, ?_, r⟩
        rcases hm with hm | ⟨m, e, hm⟩
        · exact .inl hm
        · exact .inr ⟨m, e, hm9 m es ck hm⟩
      rmap := ⟨#[], 0, .inr ⟨W.heap.size, rfl, by
        have : (((W.alloc (.map #[] 0)).setCell ⟨x.hp, 9, none⟩ (.map (some W.heap.size))).heap[W.heap.size]?) = (W.alloc (.map #[] 0)).heap[W.heap.size]? :=
          (Keeps.setCell (S := (· = x.hp)) (Keeps.refl _ (W.alloc (.map #[] 0))) (p := ⟨x.hp, 9, none⟩) (.inl rfl) _).block W.heap.size (by simp) (by omega)
        rw [this]; exact World.alloc_heap_new _ _⟩, IntEs.empty _, fun k => by simp [esGet]⟩
      maps := fun k e e2 => by
        injection e2 with e2; injection e2 with e2
        have := h.fp_lt k (.inr (.inr (.inr (.inl e)))); omega
      pbs := fun y hy => by
        have hp := h.pbs y hy
        exact ⟨hk.blk hp.st (hp.st.ne h.blk (by decide)), hk.blk hp.wo (hp.wo.ne h.blk (by decide))⟩
      ps := h.ps
      arrs := h.arrs
      base_ := fun k hk2 => by
        rcases hk2 with e | e | e | e | e | e
        · exact h.base_ k (.inl e)
        · exact h.base_ k (.inr (.inl e))
        · exact h.base_ k (.inr (.inr (.inl e)))
        · exact h.base_ k (.inr (.inr (.inr (.inl e))))
        · injection e with e; injection e with e; subst e
          have := h.base_ x.hp (.inl rfl); omega
        · exact h.base_ k (.inr (.inr (.inr (.inr (.inr e)))))
      ok := { h.ok with nil := fun e => e.elim (fun e => h.ok.nil (.inl e)) fun e => by cases e } }
theorem insR_last' {k : Int} {R : List Int} (h : ∀ j ∈ R, j < k) : insR k R = R ++ [k] := by
  induction R with
  | nil => rfl
  | cons m R ih =>
    have := h m (by simp)
    simp only [insR, if_pos this, ih fun j hj => h j (by simp [hj]), List.cons_append]
theorem mid_bad {w : World} {base : Nat} {x : PH} {es : Array MapEntry} {ck : Nat} {f : Int → Int} (h : Mid w base x es ck f) (m : Nat) : ∀ y ∈ (x.moved f m).all, ∀ u ∈ y.b.ws, (x.moved f m).bad u = false := by
  intro y hy u hu
  rw [mvPB_all] at hy
  obtain ⟨y0, hy0, rfl⟩ := List.mem_map.1 hy
  obtain ⟨u0, hu0, rfl⟩ := List.mem_map.1 hu
  unfold PH.bad badF
  by_cases hr : refW (mvW f u0) = 0
  · simp [hr]
  · have hr0 : refW u0 ≠ 0 := fun e => hr (by unfold mvW; rw [if_pos e]; exact e)
    obtain ⟨z, hz, _, hfz⟩ := h.ref y0 hy0 u0 hu0 hr0
    have e : refW (mvW f u0) = z.b.at_ := by
      have h1 : u0.tag = 1 := by unfold refW at hr0; by_cases h : u0.tag = 1; · exact h
                                 · rw [if_neg h] at hr0; exact (hr0 rfl).elim
      unfold mvW; rw [if_neg hr0]; unfold refW; simp only []; rw [if_pos h1]; exact hfz
    have hne : (x.moved f m).find (refW (mvW f u0)) ≠ none := by
      unfold PH.find
      rw [Ne, List.find?_eq_none]
      intro hall
      have := hall (mvPB f z) (by rw [mvPB_all]; exact List.mem_map_of_mem hz)
      rw [e] at this; simp [mvPB] at this
    cases hf : (x.moved f m).find (refW (mvW f u0)) with
    | none => exact (hne hf).elim
    | some z => simp
/-- What is written until all is settled. -/
theorem Half.keeps {w w8 V w' : World} {base : Nat} {x x1 : PH} {f : Int → Int} {m : Nat} (hx8 : Ext w w8) (hH : Half w8 x V base x1 []) (hav : x1.av = x.av) (hrv : x1.rv = x.rv ∨ ∃ r, x1.rv = .map (some r) ∧ w8.heap.size ≤ r)
    (hk : Keeps x1.fp V w') (hm : V.heap.size ≤ m) : Keeps x.fp w w' ∧ ∀ k, (x1.moved f m).fp k → x.fp k ∨ w.heap.size ≤ k := by
  have hs := hx8.size
  have hs2 := hH.kp.size
  have hfp := hH.fp hav hrv
  refine ⟨?_, ?_⟩
  · refine ((hx8.mono fun _ _ h => h.elim : Keeps x.fp w w8).trans' (hH.kp.mono fun _ _ h => h.fp) fun _ _ h => h).trans' hk fun k hk2 hf => ?_
    rcases hfp k hf with h | h
    · exact h
    · omega
  · intro k hk2
    rcases moved_fp hk2 with h | rfl
    · rcases hfp k h with h | h
      · exact .inl h
      · exact .inr (by omega)
    · exact .inr (by omega)
/-- The heap whose first k old blocks have been looked at for references to young ones. -/
def remAt (q : Bk → Bool) (l : List PB) (k : Nat) : List Int := (((l.take k).map PB.b).filter q).map Bk.at_
def PH.remK (x : PH) (q : Bk → Bool) (k : Nat) : PH := { x with R := remAt q x.ob k }
theorem remAt_skip {q : Bk → Bool} {l : List PB} {k : Nat} {y : PB} (hy : l[k]? = some y) (hq : q y.b = false) : remAt q l (k + 1) = remAt q l k := by
  unfold remAt; rw [List.take_add_one, hy, List.map_append, List.filter_append]; simp [Option.toList, hq]
theorem remAt_step {q : Bk → Bool} {l : List PB} {k : Nat} {y : PB} (hy : l[k]? = some y) (hq : q y.b = true) {f : Int} (hd : Dense f (l.map PB.b)) : insR y.b.at_ (remAt q l k) = remAt q l (k + 1) := by
  have e : remAt q l (k + 1) = remAt q l k ++ [y.b.at_] := by
    unfold remAt; rw [List.take_add_one, hy, List.map_append, List.filter_append]; simp [Option.toList, hq]
  rw [e]
  refine insR_last' ?_
  intro j hj
  unfold remAt at hj
  obtain ⟨b, hb, rfl⟩ := List.mem_map.1 hj
  obtain ⟨hb, _⟩ := List.mem_filter.1 hb
  have hlt : k < l.length := (List.getElem?_eq_some_iff.1 hy).1
  have hsplit : l = l.take k ++ y :: l.drop (k + 1) := by
    conv => lhs; rw [← List.take_append_drop k l]
    rw [List.drop_eq_getElem_cons hlt]; rw [List.getElem?_eq_getElem hlt] at hy; injection hy with hy; rw [hy]
  rw [hsplit, List.map_append, Dense.append] at hd
  have h1 := hd.1.mem hb
  have h2 : y.b.at_ = f + bused ((l.take k).map PB.b) := hd.2.1
  omega
end Go.Proofs.Ytikigppfnhilhaa
