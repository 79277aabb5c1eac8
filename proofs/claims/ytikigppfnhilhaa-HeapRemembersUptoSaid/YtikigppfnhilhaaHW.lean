/- What a store does to a heap in memory. -/
import Derived.Test.YtikigppfnhilhaaHQ
namespace Go.Proofs.Ytikigppfnhilhaa
open Go.RowKit Go.Instr
set_option linter.unusedVariables false
set_option linter.unusedSimpArgs false

def PB.set (y : PB) (i : Nat) (u : Wd) : PB := { y with b := { y.b with ws := y.b.ws.set i u } }
def setPB (p i : Nat) (u : Wd) (z : PB) : PB := if z.p = p then z.set i u else z
def PH.setWord (x : PH) (p i : Nat) (u : Wd) : PH := { x with yb := x.yb.map (setPB p i u), ob := x.ob.map (setPB p i u) }
theorem setPB_p (p i : Nat) (u : Wd) (z : PB) : (setPB p i u z).p = z.p := by unfold setPB PB.set; split <;> rfl
theorem setPB_arr (p i : Nat) (u : Wd) (z : PB) : (setPB p i u z).arr = z.arr := by unfold setPB PB.set; split <;> rfl
theorem setPB_at (p i : Nat) (u : Wd) (z : PB) : (setPB p i u z).b.at_ = z.b.at_ := by unfold setPB PB.set; split <;> rfl
theorem setPB_kind (p i : Nat) (u : Wd) (z : PB) : (setPB p i u z).b.kind = z.b.kind := by unfold setPB PB.set; split <;> rfl
theorem setPB_len (p i : Nat) (u : Wd) (z : PB) : (setPB p i u z).b.ws.length = z.b.ws.length := by unfold setPB PB.set; split <;> simp
theorem setPB_ptr (p i : Nat) (u : Wd) (z : PB) : (setPB p i u z).ptr = z.ptr := by unfold PB.ptr; rw [setPB_p]
theorem setPB_cells (p i : Nat) (u : Wd) (z : PB) : (setPB p i u z).cells = z.cells := by unfold PB.cells; rw [setPB_at, setPB_kind, setPB_arr, setPB_len]
theorem PH.setWord_all (x : PH) (p i : Nat) (u : Wd) : (x.setWord p i u).all = x.all.map (setPB p i u) := by simp [PH.setWord, PH.all]
theorem map_setPB {β : Type} (f : PB → β) (p i : Nat) (u : Wd) (hf : ∀ z, f (setPB p i u z) = f z) (l : List PB) : (l.map (setPB p i u)).map f = l.map f := by
  rw [List.map_map]; exact List.map_congr_left fun z _ => hf z
theorem atOf_setPB (l : List PB) (p i : Nat) (u : Wd) (k : Int) : atOf (l.map (setPB p i u)) k = atOf l k := by
  unfold atOf
  induction l with
  | nil => rfl
  | cons z l ih =>
    simp only [List.map_cons, List.find?_cons, setPB_at]
    by_cases h : z.b.at_ = k
    · simp [h, setPB_ptr]
    · simp only [h, decide_false]; exact ih
theorem PH.setWord_fp (x : PH) (p i : Nat) (u : Wd) (k : Nat) : (x.setWord p i u).fp k ↔ x.fp k := by
  unfold PH.fp
  rw [PH.setWord_all, map_setPB PB.p _ _ _ (setPB_p p i u), map_setPB PB.arr _ _ _ (setPB_arr p i u)]
  exact Iff.rfl

theorem bused_setPB (l : List PB) (p i : Nat) (u : Wd) : bused ((l.map (setPB p i u)).map PB.b) = bused (l.map PB.b) := by
  unfold bused
  rw [List.map_map, List.map_map, List.map_map]
  congr 1
  exact List.map_congr_left fun z _ => by simp [setPB_len]
theorem Dense_setPB (l : List PB) (p i : Nat) (u : Wd) (f : Int) : Dense f ((l.map (setPB p i u)).map PB.b) ↔ Dense f (l.map PB.b) := by
  induction l generalizing f with
  | nil => exact Iff.rfl
  | cons z l ih => simp only [List.map_cons, Dense, setPB_at, setPB_len, ih]
theorem PH.Ok.setWord {x : PH} (h : x.Ok) (p i : Nat) (u : Wd) : (x.setWord p i u).Ok where
  Y0 := h.Y0
  Y1 := h.Y1
  O0 := h.O0
  O1 := h.O1
  yu := by show x.yu = bused ((x.yb.map (setPB p i u)).map PB.b); rw [bused_setPB]; exact h.yu
  ou := by show x.ou = bused ((x.ob.map (setPB p i u)).map PB.b); rw [bused_setPB]; exact h.ou
  yu1 := h.yu1
  ou1 := h.ou1
  fy := h.fy
  fo := h.fo
  nil := h.nil
  dy := (Dense_setPB x.yb p i u 1).2 h.dy
  do_ := (Dense_setPB x.ob p i u _).2 h.do_
/-- The six cells of a word, written. -/
theorem flat_set (ws : List Wd) (i : Nat) (u : Wd) (hi : i < ws.length) :
    ((((((flat ws).setIfInBounds (i * 6) (.int .i64 u.tag)).setIfInBounds (i * 6 + 1) (.int .i64 u.a)).setIfInBounds (i * 6 + 2) (.int .i64 u.b)).setIfInBounds (i * 6 + 3) (.string u.text)).setIfInBounds (i * 6 + 4) (.int .i64 u.man)).setIfInBounds (i * 6 + 5) (.int .i64 u.exp) = flat (ws.set i u) := by
  apply Array.toList_inj.1
  simp only [flat, Array.toList_setIfInBounds]
  rw [flatL_set ws i u hi]
/-- The world with a word written. -/
def putWord (w : World) (arr i : Nat) (u : Wd) : World :=
  (((((w.setCell ⟨arr, i * 6, none⟩ (.int .i64 u.tag)).setCell ⟨arr, i * 6 + 1, none⟩ (.int .i64 u.a)).setCell ⟨arr, i * 6 + 2, none⟩ (.int .i64 u.b)).setCell ⟨arr, i * 6 + 3, none⟩ (.string u.text)).setCell ⟨arr, i * 6 + 4, none⟩ (.int .i64 u.man)).setCell ⟨arr, i * 6 + 5, none⟩ (.int .i64 u.exp)
theorem putWord_heap (w : World) (arr i : Nat) (u : Wd) (k : Nat) (h : k ≠ arr) : (putWord w arr i u).heap[k]? = w.heap[k]? := by
  unfold putWord
  rw [Below.heap_setCell _ _ _ _ h, Below.heap_setCell _ _ _ _ h, Below.heap_setCell _ _ _ _ h, Below.heap_setCell _ _ _ _ h, Below.heap_setCell _ _ _ _ h, Below.heap_setCell _ _ _ _ h]
theorem Keeps.putWord {S : Nat → Prop} {a b : World} (h : Keeps S a b) {arr : Nat} (hp : S arr ∨ a.heap.size ≤ arr) (i : Nat) (u : Wd) : Keeps S a (putWord b arr i u) :=
  (((((h.setCell (p := ⟨arr, i * 6, none⟩) hp _).setCell (p := ⟨arr, i * 6 + 1, none⟩) hp _).setCell (p := ⟨arr, i * 6 + 2, none⟩) hp _).setCell (p := ⟨arr, i * 6 + 3, none⟩) hp _).setCell (p := ⟨arr, i * 6 + 4, none⟩) hp _).setCell (p := ⟨arr, i * 6 + 5, none⟩) hp _
theorem Blk.word {w : World} {arr : Nat} {ws : List Wd} (h : Blk w arr (flat ws) 33) (i : Nat) (u : Wd) (hi : i < ws.length) : Blk (putWord w arr i u) arr (flat (ws.set i u)) 33 := by
  rw [← flat_set ws i u hi]
  exact (((((h.set _ _).set _ _).set _ _).set _ _).set _ _).set _ _

theorem p_ne_arr {w : World} {y z : PB} (hy : PBlk w y) (hz : PBlk w z) : y.p ≠ z.arr := hy.st.ne hz.wo (by decide)

/-- A heap with one word written. -/
theorem HRep.setWord {w w' : World} {base : Nat} {x : PH} (h : HRep w base x) {y : PB} (hy : y ∈ x.all) (i : Nat) (u : Wd)
    (hb : Blk w' y.arr (flat (y.b.ws.set i u)) 33) (hk : ∀ k, x.fp k → k ≠ y.arr → w'.heap[k]? = w.heap[k]?) : HRep w' base (x.setWord y.p i u) := by
  have hpy := h.pbs y hy
  have hne : ∀ c t, Blk w y.arr c t → t = 33 := by
    intro c t hc
    have h1 := hpy.wo; unfold Blk at h1 hc; rw [h1] at hc; injection hc with hc; injection hc with _ hc; exact hc.symm
  have hhp : x.hp ≠ y.arr := h.blk.ne hpy.wo (by decide)
  have hrow : ∀ v n xs, w.ownsRow base 89 1 v n xs → ∀ k, v.ownBlock = some k → k ≠ y.arr := by
    intro v n xs hv k hk' e
    rcases hv.2 with ⟨hv, _⟩ | ⟨g, cap, cur, hv, _, hg, _⟩
    · rw [hv] at hk'; cases hk'
    · rw [hv] at hk'; injection hk' with hk'; subst hk'; subst e
      have := hne _ _ hg; exact absurd this (by decide)
  have hmap : ∀ v es c, MapV w v es c → ∀ k, v = .map (some k) → k ≠ y.arr := by
    rintro v es c (⟨rfl, _⟩ | ⟨m, rfl, hm⟩) k e
    · cases e
    · injection e with e; injection e with e; subst e
      rintro rfl
      have h1 := hpy.wo; unfold Blk at h1; rw [h1] at hm; cases hm
  have hall := PH.setWord_all x y.p i u
  refine { blk := ?_, yrow := ?_, orow := ?_, rows := h.rows, amap := ?_, rmap := ?_, maps := h.maps, pbs := ?_, ps := ?_, arrs := ?_, base_ := ?_, ok := h.ok.setWord y.p i u }
  · exact (hk _ (.inl rfl) hhp).trans h.blk
  · show w'.ownsRow base 89 1 x.yv (x.yb.map (setPB y.p i u)).length ((x.yb.map (setPB y.p i u)).map PB.ptr)
    rw [map_setPB PB.ptr _ _ _ (setPB_ptr y.p i u), List.length_map]
    exact ownsRow_keeps h.yrow fun k e => hk k (.inr (.inl e.symm)) (hrow _ _ _ h.yrow k e)
  · show w'.ownsRow base 89 1 x.ov (x.ob.map (setPB y.p i u)).length ((x.ob.map (setPB y.p i u)).map PB.ptr)
    rw [map_setPB PB.ptr _ _ _ (setPB_ptr y.p i u), List.length_map]
    exact ownsRow_keeps h.orow fun k e => hk k (.inr (.inr (.inl e.symm))) (hrow _ _ _ h.orow k e)
  · obtain ⟨es, c, hm, he, hg⟩ := h.amap
    exact ⟨es, c, hm.keeps fun k e => hk k (.inr (.inr (.inr (.inl e)))) (hmap _ _ _ hm k e), he, fun k => by rw [hall, atOf_setPB]; exact hg k⟩
  · obtain ⟨es, c, hm, he, hg⟩ := h.rmap
    exact ⟨es, c, hm.keeps fun k e => hk k (.inr (.inr (.inr (.inr (.inl e))))) (hmap _ _ _ hm k e), he, hg⟩
  · intro z hz
    rw [hall] at hz
    obtain ⟨z0, hz0, rfl⟩ := List.mem_map.1 hz
    have hz1 := h.pbs z0 hz0
    have hp1 : x.fp z0.p := .inr (.inr (.inr (.inr (.inr (.inl (List.mem_map.2 ⟨z0, hz0, rfl⟩))))))
    have ha1 : x.fp z0.arr := .inr (.inr (.inr (.inr (.inr (.inr (List.mem_map.2 ⟨z0, hz0, rfl⟩))))))
    refine ⟨?_, ?_⟩
    · rw [setPB_p, setPB_cells]; exact (hk _ hp1 (p_ne_arr hz1 hpy)).trans hz1.st
    · rw [setPB_arr]
      by_cases e : z0.p = y.p
      · have : z0 = y := inj_on_of_nodup_map h.ps hz0 hy e
        subst this
        simp only [setPB, if_pos rfl, PB.set]; exact hb
      · have hne2 : z0.arr ≠ y.arr := fun e2 => e (by rw [inj_on_of_nodup_map h.arrs hz0 hy e2])
        simp only [setPB, if_neg e]
        exact (hk _ ha1 hne2).trans hz1.wo
  · rw [hall, map_setPB PB.p _ _ _ (setPB_p y.p i u)]; exact h.ps
  · rw [hall, map_setPB PB.arr _ _ _ (setPB_arr y.p i u)]; exact h.arrs
  · intro k hk'; exact h.base_ k ((PH.setWord_fp x y.p i u k).1 hk')

/-! ### The remembered ones -/
def insR (n : Int) : List Int → List Int
  | [] => [n]
  | m :: l => if m < n then m :: insR n l else if m = n then m :: l else n :: m :: l
theorem mem_insR (n k : Int) (l : List Int) : k ∈ insR n l ↔ k = n ∨ k ∈ l := by
  induction l with
  | nil => simp [insR]
  | cons m l ih =>
    simp only [insR]
    split
    · simp only [List.mem_cons, ih]; constructor <;> (rintro (h | h | h) <;> simp [h])
    · split
      · rename_i h; subst h; simp only [List.mem_cons]; constructor
        · rintro (h | h) <;> simp [h]
        · rintro (h | h | h) <;> simp [h]
      · simp [List.mem_cons]

/-- A number more is remembered. -/
theorem HRep.remember {w : World} {base : Nat} {x : PH} (h : HRep w base x) {r : Nat} (hr : x.rv = .map (some r)) {es : Array MapEntry} {c : Nat} (he : IntEs es c) {k : Int} {es0 : Array MapEntry} {c0 : Nat} (hm : w.heap[r]? = some (.map es0 c0))
    (hg0 : ∀ j, esGet es0.toList j = if j ∈ x.R then some (.bool true) else none)
    (hg : ∀ j, esGet es.toList j = if j = k then some (.bool true) else esGet es0.toList j) : HRep (w.putObj r (.map es c)) base { x with R := insR k x.R } := by
  have hlt : r < w.heap.size := (Array.getElem?_eq_some_iff.1 hm).1
  have hother : ∀ j, j ≠ r → (w.putObj r (.map es c)).heap[j]? = w.heap[j]? := fun j hj => by
    simp only [World.putObj]; rw [Array.getElem?_setIfInBounds_ne (Ne.symm hj)]
  have hself : (w.putObj r (.map es c)).heap[r]? = some (.map es c) := by
    simp only [World.putObj]; rw [Array.getElem?_setIfInBounds_self_of_lt hlt]
  have hcells : ∀ b cs t, Blk w b cs t → Blk (w.putObj r (.map es c)) b cs t := fun b cs t hb => by
    unfold Blk at *
    rw [hother b (by rintro rfl; rw [hm] at hb; cases hb)]; exact hb
  have hrow : ∀ v n xs, w.ownsRow base 89 1 v n xs → (w.putObj r (.map es c)).ownsRow base 89 1 v n xs := fun v n xs hv => by
    refine ownsRow_keeps hv fun j hj => hother j ?_
    rintro rfl
    rcases hv.2 with ⟨hv, _⟩ | ⟨g, cap, cur, hv, _, hg, _⟩
    · rw [hv] at hj; cases hj
    · rw [hv] at hj; injection hj with hj; subst hj; rw [hm] at hg; cases hg
  refine { blk := hcells _ _ _ h.blk, yrow := hrow _ _ _ h.yrow, orow := hrow _ _ _ h.orow, rows := h.rows, amap := ?_, rmap := ?_, maps := h.maps, pbs := fun y hy => ⟨hcells _ _ _ (h.pbs y hy).st, hcells _ _ _ (h.pbs y hy).wo⟩, ps := h.ps, arrs := h.arrs, base_ := h.base_, ok := ⟨h.ok.Y0, h.ok.Y1, h.ok.O0, h.ok.O1, h.ok.yu, h.ok.ou, h.ok.yu1, h.ok.ou1, h.ok.fy, h.ok.fo, h.ok.nil, h.ok.dy, h.ok.do_⟩ }
  · obtain ⟨e1, c1, hm1, he1, hg1⟩ := h.amap
    exact ⟨e1, c1, hm1.keeps fun j hj => hother j (by rintro rfl; exact h.maps _ hj hr), he1, hg1⟩
  · refine ⟨es, c, .inr ⟨r, hr, hself⟩, he, fun j => ?_⟩
    rw [hg j, hg0 j]
    by_cases e : j = k
    · simp [e, mem_insR]
    · simp [e, mem_insR]
end Go.Proofs.Ytikigppfnhilhaa
