/- push: a block behind the others of its generation. Alloc: what it leaves, as a heap. -/
import Derived.Test.YtikigppfnhilhaaGPD7
import Derived.Laws.AppendOwn
import Derived.StillTailTactics
import Derived.Maps.AppendAt
import Derived.RangeFuncBox
/- push: a block behind the others of its generation. -/
namespace Go.Proofs.Ytikigppfnhilhaa
open Go.RowKit Go.Instr
set_option linter.unusedVariables false
set_option linter.unusedSimpArgs false

theorem info_bp : (Try.prog.info? 89).map (fun i => (i.zero, i.size, i.bytes)) = some (some (.pointer none), 1, 8) := by kernel_rfl

/-- What push leaves. -/
structure Pushed (w : World) (base hp o p : Nat) (c : Array Value) (T : TypeId) (pc : Array Value) (fi us : Int) (len : Nat) (v : Value) (n : Nat) (xs : List Value) (w' : World) (v' : Value) : Prop where
  blk : Blk w' hp ((c.setIfInBounds (o + 2) (.int .i64 (us + len + 1))).setIfInBounds (o + 3) v') T
  pb : Blk w' p (pc.setIfInBounds 0 (.int .i64 (fi + us))) 91
  row : w'.ownsRow base 89 1 v' (n + 1) (xs ++ [.pointer (some ⟨p, 0, none⟩)])
  own : ∀ k, v'.ownBlock = some k → v.ownBlock = some k ∨ w.heap.size ≤ k
  keeps : Keeps (fun k => k = hp ∨ k = p ∨ v.ownBlock = some k) w w'

set_option maxRecDepth 100000 in
set_option maxHeartbeats 1000000 in
theorem push_raw (w : World) (base hp o p : Nat) (c pc : Array Value) (T : TypeId) (hT : T ≠ 89) (hb : Blk w hp c T) (fi us : Int) (len : Nat) (v : Value) (n : Nat) (xs : List Value)
    (c0 : c[o]? = some (.int .i64 fi)) (c2 : c[o + 2]? = some (.int .i64 us)) (c3 : c[o + 3]? = some v) (hf0 : 0 ≤ fi) (hf1 : fi ≤ 100001) (hu0 : 0 ≤ us) (hu1 : us ≤ 100000)
    (hpb : Blk w p pc 91) (hsz : pc.size = 3) (a : Option Addr) (cp : Nat) (p2 : pc[2]? = some (.slice a len cp)) (hlen : len ≤ 100000) (hne : p ≠ hp) (hown : w.ownsRow base 89 1 v n xs) (hn : n ≤ 100000) (hbase : base ≤ w.heap.size) :
    Calls Try.prog 60 #[.pointer (some ⟨hp, o, none⟩), .pointer (some ⟨p, 0, none⟩)] w fun e w' => e = .returned (.tuple #[]) ∧ ∃ v', Pushed w base hp o p c T pc fi us len v n xs w' v' := by
  obtain ⟨i0, hi, hz0, hz1, hz2⟩ := info_parts info_bp
  have e0 : w.cell? ⟨hp, o, none⟩ = some (.int .i64 fi) := (hb.cell _).trans c0
  have e2 : w.cell? ⟨hp, o + 2, none⟩ = some (.int .i64 us) := (hb.cell _).trans c2
  obtain ⟨z0, q0⟩ : ∃ z, w.cell? ⟨p, 0, none⟩ = some z := ⟨pc[0], by rw [hpb.cell]; simp [hsz]⟩
  have fp := hpb.frozen 0
  have H1 := Lib.hid ((hb.far (a := ⟨p, 0, none⟩) (Ne.symm hne) (.int .i64 (fi + us))).drew)
  have H2 := Lib.hid ((hpb.set 0 (.int .i64 (fi + us))).drew)
  have H3 : Hid (((w.setCell ⟨p, 0, none⟩ (.int .i64 (fi + us))).drew).ownsRow base 89 1 v n xs) := ownsRow_set hown (a := ⟨p, 0, none⟩) hpb (by decide) _
  have HK : Hid (Keeps (fun k => k = hp ∨ k = p ∨ v.ownBlock = some k) w (w.setCell ⟨p, 0, none⟩ (.int .i64 (fi + us))).drew) := Lib.hid ((Keeps.refl _ w).setCell (p := ⟨p, 0, none⟩) (.inl (.inr (.inl rfl))) _).drew
  have Hc0 := Lib.hid c0; have Hc2 := Lib.hid c2; have Hc3 := Lib.hid c3; have Hp2 := Lib.hid p2; have Hsz := Lib.hid hsz
  clear c0 c2 c3 p2 hsz hown hb hpb
  go_enter Try.func60, Try.ntmps60
  go_wp2
  go_region
  go_wp2
  generalize (w.setCell ⟨p, 0, none⟩ (.int .i64 (fi + us))).drew = w0 at H1 H2 H3 HK ⊢
  refine wp_region_still_tail 9 (by kernel_rfl) (by kernel_rfl) ?_
  simp only [List.take_succ_cons, List.take_zero, List.drop_succ_cons, List.drop_zero]
  change wpStill _ _ w0.drew (fun a' => wpList _ _ _ _ a' w0.drew) _ _
  have H1 := Lib.hid H1.out.drew
  have H2 := Lib.hid H2.out.drew
  have H3 : Hid (w0.drew.ownsRow base 89 1 v n xs) := H3.out
  have HK := Lib.hid HK.out.drew
  generalize w0.drew = w1 at H1 H2 H3 HK ⊢
  clear e0 e2 q0 fp
  have e2 : w1.cell? ⟨hp, o + 2, none⟩ = some (.int .i64 us) := (H1.out.cell _).trans Hc2.out
  have q2 : w1.cell? ⟨p, 2, none⟩ = some (.slice a len cp) := by rw [H2.out.cell, Array.getElem?_setIfInBounds_ne (by decide)]; exact Hp2.out
  have fh := H1.out.frozen (o + 2)
  have e3 : w1.cell? ⟨hp, o + 3, none⟩ = some v := (H1.out.cell _).trans Hc3.out
  have G1 := Lib.hid (H1.out.set (o + 2) (.int .i64 (us + (len + 1))))
  have G2 := Lib.hid (H2.out.far (a := ⟨hp, o + 2, none⟩) hne (.int .i64 (us + (len + 1))))
  have G3 := Lib.hid (ownsRow_set H3.out (a := ⟨hp, o + 2, none⟩) H1.out hT (.int .i64 (us + (len + 1))))
  have GK := Lib.hid (HK.out.setCell (p := ⟨hp, o + 2, none⟩) (.inl (.inl rfl)) (.int .i64 (us + (len + 1))))
  have hbase1 : base ≤ w1.heap.size := Nat.le_trans hbase HK.out.size
  repeat still_step
  still_call (takes_raw p a len cp w1 q2 (by omega))
  repeat still_step
  refine wpStill_nil ?_
  go_wp2_with (at_builtin; refine wpList_append_fresh rfl _ _ 75 rfl base 89 i0 (.pointer none) 1 8 Try.underlying75 hi hz0 hz1 hz2 rfl (by decide) _ _ _ rfl (G3.out.alloc _) ⟨w1.heap.size, 0, none⟩ 1 1 [.pointer (some ⟨p, 0, none⟩)] rfl rfl ?c1 ?c2 ?c3 ?c4 ?c5 ?_)
  case c1 => (have := cell_one_new (w1.setCell ⟨hp, o + 2, none⟩ (.int .i64 (us + (len + 1)))) (.pointer (some ⟨p, 0, none⟩)) 89; rw [World.size_setCell] at this; exact this)
  case c2 => simp [Value.oneCell']
  case c3 => unfold maxLen; omega
  case c4 => omega
  case c5 => simp; omega
  intro v' w3 hown' hgrow hnil hfresh
  have hv : ∀ b c' t, Blk (w1.setCell ⟨hp, o + 2, none⟩ (.int .i64 (us + (len + 1)))) b c' t → t ≠ 89 → Blk w3 b c' t := by
    intro b c' t hb' ht
    refine (hgrow.block b (by have := hb'.lt; simp at this ⊢; omega) ?_).trans (hb'.alloc _)
    intro e
    obtain ⟨cur, hc⟩ := ownsRow_type G3.out e.symm
    exact ht ((by
      unfold Blk at hc hb'; rw [hc] at hb'; injection hb' with hb'; injection hb' with _ h1; exact h1.symm) : t = 89)
  have F1 := Lib.hid (hv _ _ _ G1.out hT)
  have F2 := Lib.hid (hv _ _ _ G2.out (by decide))
  obtain ⟨g', cap', rfl⟩ := ownsRow_succ hown'
  have FK : Hid (Keeps (fun k => k = hp ∨ k = p ∨ v.ownBlock = some k) w w3) := Lib.hid ((GK.out.alloc _).grown hgrow fun k e => .inl (.inr (.inr e)))
  have FO : Hid (∀ k, (Value.slice (some ⟨g', 0, none⟩) (n + 1) cap').ownBlock = some k → v.ownBlock = some k ∨ w.heap.size ≤ k) := fun k hk => (hfresh k hk).imp id fun h => by have := HK.out.size; omega
  have Hown := Lib.hid hown'
  have e3' : w3.cell? ⟨hp, o + 3, none⟩ = some v := by
    rw [F1.out.cell, Array.getElem?_setIfInBounds_ne (by omega)]; exact Hc3.out
  have fh' := F1.out.frozen (o + 3)
  clear hfresh hown' hgrow hnil hv G1 G2 G3 GK H1 H2 H3 HK e2 q2 fh e3 hbase1
  go_wp2
  go_end0
  refine ⟨rfl, _, ⟨?_, F2.out.far hne _, ?_, FO.out, FK.out.setCell (p := ⟨hp, o + 3, none⟩) (.inl (.inl rfl)) _⟩⟩
  · have := F1.out.set (o + 3) (.slice (some ⟨g', 0, none⟩) (n + 1) cap')
    rwa [← Int.add_assoc] at this
  · exact ownsRow_set Hown.out (a := ⟨hp, o + 3, none⟩) F1.out hT _
end Go.Proofs.Ytikigppfnhilhaa
/- Alloc: what it leaves, as a heap. -/
namespace Go.Proofs.Ytikigppfnhilhaa
open Go.RowKit Go.Instr
set_option linter.unusedVariables false
set_option linter.unusedSimpArgs false

/-- A heap, without where it lies. -/
structure LH where
  Y : Int
  O : Int
  yb : List Bk
  ob : List Bk
  R : List Int
def PH.log (x : PH) : LH := ⟨x.Y, x.O, x.yb.map PB.b, x.ob.map PB.b, x.R⟩

theorem atOf_none {l : List PB} {k : Int} (h : ∀ y ∈ l, y.b.at_ ≠ k) : atOf l k = none := by
  unfold atOf
  rw [List.find?_eq_none.2 (fun y hy => by simpa using h y hy)]; rfl
theorem atOf_append (a b : List PB) (k : Int) : atOf (a ++ b) k = (atOf a k).or (atOf b k) := by
  unfold atOf; rw [List.find?_append]; cases a.find? (fun y => y.b.at_ = k) <;> rfl
theorem atOf_one (z : PB) (k : Int) : atOf [z] k = if k = z.b.at_ then some z.ptr else none := by
  unfold atOf
  by_cases h : z.b.at_ = k
  · simp [h]
  · simp [h, Ne.symm h]

theorem blk_putObj_map {w : World} {r : Nat} {es : Array MapEntry} {c : Nat} (hm : w.heap[r]? = some (.map es c)) (o : Obj) {b : Nat} {cs : Array Value} {t : TypeId} (hb : Blk w b cs t) : Blk (w.putObj r o) b cs t := by
  refine hb.putObj ?_ o
  rintro rfl
  unfold Blk at hb; rw [hm] at hb; cases hb
theorem ownsRow_putObj_map {w : World} {r : Nat} {es : Array MapEntry} {c : Nat} (hm : w.heap[r]? = some (.map es c)) (o : Obj) {base : Nat} {e : TypeId} {size : Nat} {v : Value} {n : Nat} {xs : List Value} (h : w.ownsRow base e size v n xs) :
    (w.putObj r o).ownsRow base e size v n xs :=
  ownsRow_keeps h fun k hk => by
    obtain ⟨cur, hc⟩ := ownsRow_type h hk
    exact (blk_putObj_map hm o hc).trans hc.symm

def newPB (w : World) (a kind : Int) (n : Nat) : PB := ⟨w.heap.size + 1, w.heap.size, ⟨a, kind, List.replicate n wd0⟩⟩
def boxed (w : World) (kind : Int) (n : Nat) : World :=
  (w.alloc (.cells (flat (List.replicate n wd0)) 33)).alloc (.cells #[.int .i64 0, .int .i64 kind, .slice (some ⟨w.heap.size, 0, none⟩) n n] 91)

-- YOUNG
theorem HRep.alloc_y {w w2 w3 : World} {base : Nat} {x : PH} (h : HRep w base x) (kind : Int) (n : Nat) {v' : Value}
    (hpush : Pushed (boxed w kind n) base x.hp 0 (w.heap.size + 1) x.cells 81 #[.int .i64 0, .int .i64 kind, .slice (some ⟨w.heap.size, 0, none⟩) n n] x.fy x.yu n x.yv x.yb.length (x.yb.map PB.ptr) w2 v')
    {m : Nat} (hm : x.av = .map (some m)) {es es' : Array MapEntry} {c c' : Nat} (hes : w2.heap[m]? = some (.map es c)) (hw3 : w3 = w2.putObj m (.map es' c')) (he' : IntEs es' c')
    (hg : ∀ k, esGet es.toList k = atOf x.all k) (hg' : ∀ j, esGet es'.toList j = if j = x.fy + x.yu then some (.pointer (some ⟨w.heap.size + 1, 0, none⟩)) else esGet es.toList j)
    (hfit : (n : Int) + 1 ≤ x.Y - x.yu) :
    HRep w3 base { x with yu := x.yu + n + 1, yv := v', yb := x.yb ++ [newPB w (x.fy + x.yu) kind n] } ∧ Keeps x.fp w w3 ∧ (∀ k, ({ x with yu := x.yu + n + 1, yv := v', yb := x.yb ++ [newPB w (x.fy + x.yu) kind n] } : PH).fp k → x.fp k ∨ w.heap.size ≤ k) := by
  have hY : 0 < x.Y := by have := h.ok.yu0; omega
  have hfy := h.ok.fy hY
  have hbx : ∀ k o, w.heap[k]? = some o → (boxed w kind n).heap[k]? = some o := fun k o hk => by
    have hlt := (Array.getElem?_eq_some_iff.1 hk).1
    unfold boxed
    rw [Below.heap_alloc _ _ _ (by simp; omega), Below.heap_alloc _ _ _ hlt]; exact hk
  have hsz : (boxed w kind n).heap.size = w.heap.size + 2 := by simp [boxed]
  have h1 : Blk (boxed w kind n) w.heap.size (flat (List.replicate n wd0)) 33 := (Blk.new w _ _).alloc _
  have hkp : Keeps x.fp w (boxed w kind n) := ((Keeps.refl _ w).alloc _).alloc _
  have hS : ∀ k, k < w.heap.size → (k = x.hp ∨ k = w.heap.size + 1 ∨ x.yv.ownBlock = some k) → x.fp k := by
    rintro k hk (rfl | rfl | e)
    · exact .inl rfl
    · omega
    · exact .inr (.inl e.symm)
  have hK2 : Keeps x.fp w w2 := hkp.trans' hpush.keeps fun k hk e => hS k hk e
  have hK3 : Keeps x.fp w w3 := by rw [hw3]; exact hK2.putObj (.inl (.inr (.inr (.inr (.inl hm))))) _
  refine ⟨?_, hK3, ?_⟩
  rotate_left
  · rintro k (e | e | e | e | e | e | e)
    · exact .inl (.inl e)
    · exact (hpush.own k e.symm).imp (fun h2 => .inr (.inl h2.symm)) fun h2 => by omega
    · exact .inl (.inr (.inr (.inl e)))
    · exact .inl (.inr (.inr (.inr (.inl e))))
    · exact .inl (.inr (.inr (.inr (.inr (.inl e)))))
    · obtain ⟨y, hy, rfl⟩ := List.mem_map.1 e
      have hy' : y ∈ x.all ∨ y = newPB w (x.fy + x.yu) kind n := by
        have : y ∈ x.yb ++ [newPB w (x.fy + x.yu) kind n] ++ x.ob := hy
        simp only [List.mem_append, List.mem_singleton] at this
        simp only [PH.all, List.mem_append]; rcases this with (h | h) | h <;> simp [h]
      rcases hy' with hy | rfl
      · exact .inl (.inr (.inr (.inr (.inr (.inr (.inl (List.mem_map.2 ⟨y, hy, rfl⟩)))))))
      · exact .inr (by show w.heap.size ≤ w.heap.size + 1; omega)
    · obtain ⟨y, hy, rfl⟩ := List.mem_map.1 e
      have hy' : y ∈ x.all ∨ y = newPB w (x.fy + x.yu) kind n := by
        have : y ∈ x.yb ++ [newPB w (x.fy + x.yu) kind n] ++ x.ob := hy
        simp only [List.mem_append, List.mem_singleton] at this
        simp only [PH.all, List.mem_append]; rcases this with (h | h) | h <;> simp [h]
      rcases hy' with hy | rfl
      · exact .inl (.inr (.inr (.inr (.inr (.inr (.inr (List.mem_map.2 ⟨y, hy, rfl⟩)))))))
      · exact .inr (Nat.le_refl _)
  have hold : ∀ k o, w.heap[k]? = some o → k ≠ x.hp → x.yv.ownBlock ≠ some k → w2.heap[k]? = some o := fun k o hk e1 e2 => by
    have hlt := (Array.getElem?_eq_some_iff.1 hk).1
    refine (hpush.keeps.block k (by omega) ?_).trans (hbx k o hk)
    rintro (e | e | e)
    · exact e1 e
    · omega
    · exact e2 e
  have hyb : ∀ k, x.yv.ownBlock = some k → ∃ cur, Blk w k cur 89 := fun k hk => ownsRow_type h.yrow hk
  have hob : ∀ k, x.ov.ownBlock = some k → ∃ cur, Blk w k cur 89 := fun k hk => ownsRow_type h.orow hk
  have hcells : ∀ b cs t, Blk w b cs t → t ≠ 81 → t ≠ 89 → Blk w3 b cs t := fun b cs t hb e1 e2 => by
    rw [hw3]
    refine blk_putObj_map hes _ (hold b _ hb (hb.ne h.blk e1) fun e => ?_)
    obtain ⟨cur, hc⟩ := hyb b e
    exact (hb.ne hc e2) rfl
  have hfpl := h.fp_lt
  have hallp : ∀ y ∈ x.all, y.p < w.heap.size ∧ y.arr < w.heap.size := fun y hy => ⟨(h.pbs y hy).st.lt, (h.pbs y hy).wo.lt⟩
  have hall : ({ x with yu := x.yu + n + 1, yv := v', yb := x.yb ++ [newPB w (x.fy + x.yu) kind n] } : PH).all = x.yb ++ [newPB w (x.fy + x.yu) kind n] ++ x.ob := rfl
  have hmem : ∀ y, y ∈ x.yb ++ [newPB w (x.fy + x.yu) kind n] ++ x.ob ↔ y ∈ x.all ∨ y = newPB w (x.fy + x.yu) kind n := by
    intro y; simp only [PH.all, List.mem_append, List.mem_singleton]; constructor
    · rintro ((h | h) | h) <;> simp [h]
    · rintro ((h | h) | h) <;> simp [h]
  have hperm : (x.yb ++ [newPB w (x.fy + x.yu) kind n] ++ x.ob).Perm (newPB w (x.fy + x.yu) kind n :: x.all) := by
    unfold PH.all
    rw [List.append_assoc]; exact List.perm_middle
  refine { blk := ?_, yrow := ?_, orow := ?_, rows := ?_, amap := ?_, rmap := ?_, maps := h.maps, pbs := ?_, ps := ?_, arrs := ?_, base_ := ?_, ok := ?_ }
  · rw [hw3]; exact blk_putObj_map hes _ hpush.blk
  · have := hpush.row
    rw [hw3]; refine ownsRow_putObj_map hes _ ?_
    simpa [PB.ptr, newPB] using this
  · rw [hw3]; refine ownsRow_putObj_map hes _ (ownsRow_keeps h.orow fun k hk => ?_)
    obtain ⟨cur, hc⟩ := hob k hk
    exact (hold k _ hc (hc.ne h.blk (by decide)) fun e => h.rows k e hk).trans hc.symm
  · intro k hk e
    rcases hpush.own k hk with h2 | h2
    · exact h.rows k h2 e
    · have := hfpl k (.inr (.inr (.inl e.symm))); omega
  · refine ⟨es', c', .inr ⟨m, hm, ?_⟩, he', fun k => ?_⟩
    · rw [hw3]; simp only [World.putObj]; rw [Array.getElem?_setIfInBounds_self_of_lt (Array.getElem?_eq_some_iff.1 hes).1]
    · rw [hall, hg' k, hg k, List.append_assoc, atOf_append, atOf_append, atOf_one]
      unfold PH.all
      rw [atOf_append]
      by_cases hk : k = x.fy + x.yu
      · rw [if_pos hk, if_pos (show k = (newPB w (x.fy + x.yu) kind n).b.at_ from hk)]
        rw [atOf_none (l := x.yb) fun y hy e => by have := h.ok.dy.mem (List.mem_map_of_mem (f := PB.b) hy); have := h.ok.yu; omega]
        rfl
      · rw [if_neg hk, if_neg (show ¬ k = (newPB w (x.fy + x.yu) kind n).b.at_ from hk)]; simp
  · obtain ⟨e1, c1, hm1, he1, hg1⟩ := h.rmap
    refine ⟨e1, c1, ?_, he1, hg1⟩
    rcases hm1 with hm1 | ⟨r, hr, hm1⟩
    · exact .inl hm1
    · refine .inr ⟨r, hr, ?_⟩
      have hne : r ≠ m := by rintro rfl; exact h.maps _ hm hr
      rw [hw3]; simp only [World.putObj]; rw [Array.getElem?_setIfInBounds_ne (Ne.symm hne)]
      refine hold r _ hm1 (by rintro rfl; have := h.blk; unfold Blk at this; rw [hm1] at this; cases this) fun e => ?_
      obtain ⟨cur, hc⟩ := hyb r e
      unfold Blk at hc; rw [hm1] at hc; cases hc
  · intro y hy
    rcases (hmem y).1 hy with hy | rfl
    · exact ⟨hcells _ _ _ (h.pbs y hy).st (by decide) (by decide), hcells _ _ _ (h.pbs y hy).wo (by decide) (by decide)⟩
    · refine ⟨?_, ?_⟩
      · rw [hw3]; refine blk_putObj_map hes _ ?_
        have := hpush.pb
        simpa [newPB, PB.cells] using this
      · rw [hw3]; refine blk_putObj_map hes _ ((hpush.keeps.block w.heap.size (by omega) ?_).trans h1)
        rintro (e | e | e)
        · have := h.blk.lt; omega
        · omega
        · obtain ⟨cur, hc⟩ := hyb _ e; have := hc.lt; omega
  · rw [hall, (hperm.map PB.p).nodup_iff, List.map_cons, List.nodup_cons]
    refine ⟨fun hx => ?_, h.ps⟩
    obtain ⟨y, hy, e⟩ := List.mem_map.1 hx
    have := (hallp y hy).1
    have e' : y.p = w.heap.size + 1 := e
    omega
  · rw [hall, (hperm.map PB.arr).nodup_iff, List.map_cons, List.nodup_cons]
    refine ⟨fun hx => ?_, h.arrs⟩
    obtain ⟨y, hy, e⟩ := List.mem_map.1 hx
    have := (hallp y hy).2
    have e' : y.arr = w.heap.size := e
    omega
  · have hbs : base ≤ w.heap.size := Nat.le_trans (h.base_ _ (.inl rfl)) (Nat.le_of_lt h.blk.lt)
    rintro k (e | e | e | e | e | e | e)
    · exact h.base_ k (.inl e)
    · rcases hpush.own k e.symm with h2 | h2
      · exact h.base_ k (.inr (.inl h2.symm))
      · omega
    · exact h.base_ k (.inr (.inr (.inl e)))
    · exact h.base_ k (.inr (.inr (.inr (.inl e))))
    · exact h.base_ k (.inr (.inr (.inr (.inr (.inl e)))))
    · rw [hall] at e
      obtain ⟨y, hy, rfl⟩ := List.mem_map.1 e
      rcases (hmem y).1 hy with hy | rfl
      · exact h.base_ _ (.inr (.inr (.inr (.inr (.inr (.inl (List.mem_map.2 ⟨y, hy, rfl⟩)))))))
      · show base ≤ w.heap.size + 1; omega
    · rw [hall] at e
      obtain ⟨y, hy, rfl⟩ := List.mem_map.1 e
      rcases (hmem y).1 hy with hy | rfl
      · exact h.base_ _ (.inr (.inr (.inr (.inr (.inr (.inr (List.mem_map.2 ⟨y, hy, rfl⟩)))))))
      · show base ≤ w.heap.size; omega
  · have hlen : (bused [(newPB w (x.fy + x.yu) kind n).b]) = (n : Int) + 1 := by simp [bused, newPB]
    refine { Y0 := h.ok.Y0, Y1 := h.ok.Y1, O0 := h.ok.O0, O1 := h.ok.O1, yu := ?_, ou := h.ok.ou, yu1 := ?_, ou1 := h.ok.ou1, fy := h.ok.fy, fo := h.ok.fo, nil := h.ok.nil, dy := ?_, do_ := h.ok.do_ }
    · show x.yu + n + 1 = bused ((x.yb ++ [_]).map PB.b)
      rw [List.map_append, bused_append, ← h.ok.yu]
      simp only [List.map_cons, List.map_nil, hlen]; omega
    · show x.yu + n + 1 ≤ x.Y; omega
    · show Dense 1 ((x.yb ++ [_]).map PB.b)
      rw [List.map_append, Dense.append]
      refine ⟨h.ok.dy, ?_, trivial⟩
      rw [← h.ok.yu]; show x.fy + x.yu = 1 + x.yu; rw [hfy]
-- END
-- OLD
theorem HRep.alloc_o {w w2 w3 : World} {base : Nat} {x : PH} (h : HRep w base x) (kind : Int) (n : Nat) {v' : Value}
    (hpush : Pushed (boxed w kind n) base x.hp 4 (w.heap.size + 1) x.cells 81 #[.int .i64 0, .int .i64 kind, .slice (some ⟨w.heap.size, 0, none⟩) n n] x.fo x.ou n x.ov x.ob.length (x.ob.map PB.ptr) w2 v')
    {m : Nat} (hm : x.av = .map (some m)) {es es' : Array MapEntry} {c c' : Nat} (hes : w2.heap[m]? = some (.map es c)) (hw3 : w3 = w2.putObj m (.map es' c')) (he' : IntEs es' c')
    (hg : ∀ k, esGet es.toList k = atOf x.all k) (hg' : ∀ j, esGet es'.toList j = if j = x.fo + x.ou then some (.pointer (some ⟨w.heap.size + 1, 0, none⟩)) else esGet es.toList j)
    (hfit : (n : Int) + 1 ≤ x.O - x.ou) :
    HRep w3 base { x with ou := x.ou + n + 1, ov := v', ob := x.ob ++ [newPB w (x.fo + x.ou) kind n] } ∧ Keeps x.fp w w3 ∧ (∀ k, ({ x with ou := x.ou + n + 1, ov := v', ob := x.ob ++ [newPB w (x.fo + x.ou) kind n] } : PH).fp k → x.fp k ∨ w.heap.size ≤ k) := by
  have hO : 0 < x.O := by have := h.ok.ou0; omega
  have hfy := h.ok.fo hO
  have hbx : ∀ k o, w.heap[k]? = some o → (boxed w kind n).heap[k]? = some o := fun k o hk => by
    have hlt := (Array.getElem?_eq_some_iff.1 hk).1
    unfold boxed
    rw [Below.heap_alloc _ _ _ (by simp; omega), Below.heap_alloc _ _ _ hlt]; exact hk
  have hsz : (boxed w kind n).heap.size = w.heap.size + 2 := by simp [boxed]
  have h1 : Blk (boxed w kind n) w.heap.size (flat (List.replicate n wd0)) 33 := (Blk.new w _ _).alloc _
  have hkp : Keeps x.fp w (boxed w kind n) := ((Keeps.refl _ w).alloc _).alloc _
  have hS : ∀ k, k < w.heap.size → (k = x.hp ∨ k = w.heap.size + 1 ∨ x.ov.ownBlock = some k) → x.fp k := by
    rintro k hk (rfl | rfl | e)
    · exact .inl rfl
    · omega
    · exact .inr (.inr (.inl e.symm))
  have hK2 : Keeps x.fp w w2 := hkp.trans' hpush.keeps fun k hk e => hS k hk e
  have hK3 : Keeps x.fp w w3 := by rw [hw3]; exact hK2.putObj (.inl (.inr (.inr (.inr (.inl hm))))) _
  refine ⟨?_, hK3, ?_⟩
  rotate_left
  · rintro k (e | e | e | e | e | e | e)
    · exact .inl (.inl e)
    · exact .inl (.inr (.inl e))
    · exact (hpush.own k e.symm).imp (fun h2 => .inr (.inr (.inl h2.symm))) fun h2 => by omega
    · exact .inl (.inr (.inr (.inr (.inl e))))
    · exact .inl (.inr (.inr (.inr (.inr (.inl e)))))
    · obtain ⟨y, hy, rfl⟩ := List.mem_map.1 e
      have hy' : y ∈ x.all ∨ y = newPB w (x.fo + x.ou) kind n := by
        have : y ∈ x.yb ++ (x.ob ++ [newPB w (x.fo + x.ou) kind n]) := hy
        simp only [List.mem_append, List.mem_singleton] at this
        simp only [PH.all, List.mem_append]; rcases this with h | h | h <;> simp [h]
      rcases hy' with hy | rfl
      · exact .inl (.inr (.inr (.inr (.inr (.inr (.inl (List.mem_map.2 ⟨y, hy, rfl⟩)))))))
      · exact .inr (by show w.heap.size ≤ w.heap.size + 1; omega)
    · obtain ⟨y, hy, rfl⟩ := List.mem_map.1 e
      have hy' : y ∈ x.all ∨ y = newPB w (x.fo + x.ou) kind n := by
        have : y ∈ x.yb ++ (x.ob ++ [newPB w (x.fo + x.ou) kind n]) := hy
        simp only [List.mem_append, List.mem_singleton] at this
        simp only [PH.all, List.mem_append]; rcases this with h | h | h <;> simp [h]
      rcases hy' with hy | rfl
      · exact .inl (.inr (.inr (.inr (.inr (.inr (.inr (List.mem_map.2 ⟨y, hy, rfl⟩)))))))
      · exact .inr (Nat.le_refl _)
  have hold : ∀ k o, w.heap[k]? = some o → k ≠ x.hp → x.ov.ownBlock ≠ some k → w2.heap[k]? = some o := fun k o hk e1 e2 => by
    have hlt := (Array.getElem?_eq_some_iff.1 hk).1
    refine (hpush.keeps.block k (by omega) ?_).trans (hbx k o hk)
    rintro (e | e | e)
    · exact e1 e
    · omega
    · exact e2 e
  have hyb : ∀ k, x.ov.ownBlock = some k → ∃ cur, Blk w k cur 89 := fun k hk => ownsRow_type h.orow hk
  have hob : ∀ k, x.yv.ownBlock = some k → ∃ cur, Blk w k cur 89 := fun k hk => ownsRow_type h.yrow hk
  have hcells : ∀ b cs t, Blk w b cs t → t ≠ 81 → t ≠ 89 → Blk w3 b cs t := fun b cs t hb e1 e2 => by
    rw [hw3]
    refine blk_putObj_map hes _ (hold b _ hb (hb.ne h.blk e1) fun e => ?_)
    obtain ⟨cur, hc⟩ := hyb b e
    exact (hb.ne hc e2) rfl
  have hfpl := h.fp_lt
  have hallp : ∀ y ∈ x.all, y.p < w.heap.size ∧ y.arr < w.heap.size := fun y hy => ⟨(h.pbs y hy).st.lt, (h.pbs y hy).wo.lt⟩
  have hall : ({ x with ou := x.ou + n + 1, ov := v', ob := x.ob ++ [newPB w (x.fo + x.ou) kind n] } : PH).all = x.yb ++ (x.ob ++ [newPB w (x.fo + x.ou) kind n]) := rfl
  have hmem : ∀ y, y ∈ x.yb ++ (x.ob ++ [newPB w (x.fo + x.ou) kind n]) ↔ y ∈ x.all ∨ y = newPB w (x.fo + x.ou) kind n := by
    intro y; simp only [PH.all, List.mem_append, List.mem_singleton]; constructor
    · rintro (h | (h | h)) <;> simp [h]
    · rintro ((h | h) | h) <;> simp [h]
  have hperm : (x.yb ++ (x.ob ++ [newPB w (x.fo + x.ou) kind n])).Perm (newPB w (x.fo + x.ou) kind n :: x.all) := by
    unfold PH.all
    rw [← List.append_assoc]; exact List.perm_append_singleton _ _
  refine { blk := ?_, yrow := ?_, orow := ?_, rows := ?_, amap := ?_, rmap := ?_, maps := h.maps, pbs := ?_, ps := ?_, arrs := ?_, base_ := ?_, ok := ?_ }
  · rw [hw3]; exact blk_putObj_map hes _ hpush.blk
  · rw [hw3]; refine ownsRow_putObj_map hes _ (ownsRow_keeps h.yrow fun k hk => ?_)
    obtain ⟨cur, hc⟩ := hob k hk
    exact (hold k _ hc (hc.ne h.blk (by decide)) fun e => h.rows k hk e).trans hc.symm
  · have := hpush.row
    rw [hw3]; refine ownsRow_putObj_map hes _ ?_
    simpa [PB.ptr, newPB] using this
  · intro k e hk
    rcases hpush.own k hk with h2 | h2
    · exact h.rows k e h2
    · have := hfpl k (.inr (.inl e.symm)); omega
  · refine ⟨es', c', .inr ⟨m, hm, ?_⟩, he', fun k => ?_⟩
    · rw [hw3]; simp only [World.putObj]; rw [Array.getElem?_setIfInBounds_self_of_lt (Array.getElem?_eq_some_iff.1 hes).1]
    · rw [hall, hg' k, hg k, atOf_append, atOf_append, atOf_one]
      unfold PH.all
      rw [atOf_append]
      by_cases hk : k = x.fo + x.ou
      · rw [if_pos hk, if_pos (show k = (newPB w (x.fo + x.ou) kind n).b.at_ from hk)]
        rw [atOf_none (l := x.yb) fun y hy e => by have := h.ok.dy.mem (List.mem_map_of_mem (f := PB.b) hy); have := h.ok.yu; have := h.ok.yu1; have := h.ok.ou0; omega]
        rw [atOf_none (l := x.ob) fun y hy e => by have := h.ok.do_.mem (List.mem_map_of_mem (f := PB.b) hy); have := h.ok.ou; omega]
        rfl
      · rw [if_neg hk, if_neg (show ¬ k = (newPB w (x.fo + x.ou) kind n).b.at_ from hk)]; simp
  · obtain ⟨e1, c1, hm1, he1, hg1⟩ := h.rmap
    refine ⟨e1, c1, ?_, he1, hg1⟩
    rcases hm1 with hm1 | ⟨r, hr, hm1⟩
    · exact .inl hm1
    · refine .inr ⟨r, hr, ?_⟩
      have hne : r ≠ m := by rintro rfl; exact h.maps _ hm hr
      rw [hw3]; simp only [World.putObj]; rw [Array.getElem?_setIfInBounds_ne (Ne.symm hne)]
      refine hold r _ hm1 (by rintro rfl; have := h.blk; unfold Blk at this; rw [hm1] at this; cases this) fun e => ?_
      obtain ⟨cur, hc⟩ := hyb r e
      unfold Blk at hc; rw [hm1] at hc; cases hc
  · intro y hy
    rcases (hmem y).1 hy with hy | rfl
    · exact ⟨hcells _ _ _ (h.pbs y hy).st (by decide) (by decide), hcells _ _ _ (h.pbs y hy).wo (by decide) (by decide)⟩
    · refine ⟨?_, ?_⟩
      · rw [hw3]; refine blk_putObj_map hes _ ?_
        have := hpush.pb
        simpa [newPB, PB.cells] using this
      · rw [hw3]; refine blk_putObj_map hes _ ((hpush.keeps.block w.heap.size (by omega) ?_).trans h1)
        rintro (e | e | e)
        · have := h.blk.lt; omega
        · omega
        · obtain ⟨cur, hc⟩ := hyb _ e; have := hc.lt; omega
  · rw [hall, (hperm.map PB.p).nodup_iff, List.map_cons, List.nodup_cons]
    refine ⟨fun hx => ?_, h.ps⟩
    obtain ⟨y, hy, e⟩ := List.mem_map.1 hx
    have := (hallp y hy).1
    have e' : y.p = w.heap.size + 1 := e
    omega
  · rw [hall, (hperm.map PB.arr).nodup_iff, List.map_cons, List.nodup_cons]
    refine ⟨fun hx => ?_, h.arrs⟩
    obtain ⟨y, hy, e⟩ := List.mem_map.1 hx
    have := (hallp y hy).2
    have e' : y.arr = w.heap.size := e
    omega
  · have hbs : base ≤ w.heap.size := Nat.le_trans (h.base_ _ (.inl rfl)) (Nat.le_of_lt h.blk.lt)
    rintro k (e | e | e | e | e | e | e)
    · exact h.base_ k (.inl e)
    · exact h.base_ k (.inr (.inl e))
    · rcases hpush.own k e.symm with h2 | h2
      · exact h.base_ k (.inr (.inr (.inl h2.symm)))
      · omega
    · exact h.base_ k (.inr (.inr (.inr (.inl e))))
    · exact h.base_ k (.inr (.inr (.inr (.inr (.inl e)))))
    · rw [hall] at e
      obtain ⟨y, hy, rfl⟩ := List.mem_map.1 e
      rcases (hmem y).1 hy with hy | rfl
      · exact h.base_ _ (.inr (.inr (.inr (.inr (.inr (.inl (List.mem_map.2 ⟨y, hy, rfl⟩)))))))
      · show base ≤ w.heap.size + 1; omega
    · rw [hall] at e
      obtain ⟨y, hy, rfl⟩ := List.mem_map.1 e
      rcases (hmem y).1 hy with hy | rfl
      · exact h.base_ _ (.inr (.inr (.inr (.inr (.inr (.inr (List.mem_map.2 ⟨y, hy, rfl⟩)))))))
      · show base ≤ w.heap.size; omega
  · have hlen : (bused [(newPB w (x.fo + x.ou) kind n).b]) = (n : Int) + 1 := by simp [bused, newPB]
    refine { Y0 := h.ok.Y0, Y1 := h.ok.Y1, O0 := h.ok.O0, O1 := h.ok.O1, yu := h.ok.yu, ou := ?_, yu1 := h.ok.yu1, ou1 := ?_, fy := h.ok.fy, fo := h.ok.fo, nil := h.ok.nil, dy := h.ok.dy, do_ := ?_ }
    · show x.ou + n + 1 = bused ((x.ob ++ [_]).map PB.b)
      rw [List.map_append, bused_append, ← h.ok.ou]
      simp only [List.map_cons, List.map_nil, hlen]; omega
    · show x.ou + n + 1 ≤ x.O; omega
    · show Dense (x.Y + 1) ((x.ob ++ [_]).map PB.b)
      rw [List.map_append, Dense.append]
      refine ⟨h.ok.do_, ?_, trivial⟩
      rw [← h.ok.ou]; show x.fo + x.ou = x.Y + 1 + x.ou; rw [hfy]
end Go.Proofs.Ytikigppfnhilhaa
