/- Minor of the reference: plain. What Minor and Major of the reference share: rows of numbers, blocks moved in a row, the heap anew. -/
import Derived.Test.YtikigppfnhilhaaGPD43
/- Minor of the reference: plain. -/
namespace Go.Proofs.Ytikigppfnhilhaa
open Go.RowKit Go.Instr
set_option linter.unusedVariables false
set_option linter.unusedSimpArgs false

theorem mvI_mvTo (A B : List Bk) (k : Int) : mvI (A.map Bk.at_) (B.map Bk.at_) k = mvTo A B k := by
  induction A generalizing B with
  | nil => rfl
  | cons x A ih => cases B with
    | nil => rfl
    | cons y B =>
      by_cases h : x.at_ = k
      · simp [mvI, mvTo, h]
      · have := ih B
        simp [mvI, mvTo, h] at this ⊢; exact this
theorem mvTo_ne2 {x y : Bk} {a b : List Bk} {k : Int} (h : x.at_ ≠ k) : mvTo (x :: a) (y :: b) k = mvTo a b k := by simp [mvTo, h]
theorem mvTo_same {A C N : List Bk} {k : Int} : mvTo (A ++ C) (A ++ N) k = if k ∈ A.map Bk.at_ then k else mvTo C N k := by
  induction A with
  | nil => simp
  | cons x A ih =>
    by_cases h : x.at_ = k
    · subst h; simp [mvTo]
    · rw [List.cons_append, List.cons_append, mvTo_ne2 h, ih]
      simp only [List.map_cons, List.mem_cons, show k ≠ x.at_ from fun e => h e.symm, false_or]
theorem mvTo_zero {A B : List Bk} (h0 : ∀ b ∈ A, b.at_ ≠ 0) : mvTo A B 0 = 0 := by
  induction A generalizing B with
  | nil => rfl
  | cons x A ih => cases B with
    | nil => rfl
    | cons y B => rw [mvTo_ne2 (h0 x (by simp))]; exact ih fun b hb => h0 b (by simp [hb])
theorem movedW_mvW {A B : List Bk} (h0 : ∀ b ∈ A, b.at_ ≠ 0) (u : Wd) : movedW (A.map Bk.at_) (B.map Bk.at_) u = mvW (mvTo A B) u := by
  unfold movedW mvW refW
  by_cases ht : u.tag = 1
  · rw [if_pos ht, if_pos ht, mvI_mvTo]
    by_cases hz : u.a = 0
    · rw [if_pos hz, hz, mvTo_zero h0, ← hz]
    · rw [if_neg hz]
  · rw [if_neg ht, if_neg ht, if_pos rfl]
theorem movB_mvB {A B : List Bk} (h0 : ∀ b ∈ A, b.at_ ≠ 0) (b : Bk) : movB (A.map Bk.at_) (B.map Bk.at_) b = mvB (mvTo A B) b := by
  unfold movB mvB
  congr 1
  exact List.map_congr_left fun u _ => movedW_mvW h0 u
theorem liveY_mem {h : LH} {roots : List Wd} {b : Bk} (hb : b ∈ h.liveY roots) : b ∈ h.yb := (List.mem_filter.1 hb).1
theorem minorF_eq {h : LH} (k : LOk h) (roots : List Wd) : h.minorF roots = mvTo (h.liveY roots) (shift (h.Y + 1 + bused h.ob) (h.liveY roots)) := by
  funext a
  unfold LH.minorF
  rw [mvTo_same]
  split
  · next ha =>
    obtain ⟨z, hz, rfl⟩ := List.mem_map.1 ha
    rw [← mvI_mvTo, mvI_miss fun x hx e => ?_]
    have h1 := k.ats
    unfold LH.all at h1
    rw [List.map_append, List.nodup_append] at h1
    obtain ⟨c, hc, rfl⟩ := List.mem_map.1 hx
    exact h1.2.2 c.at_ (List.mem_map_of_mem (liveY_mem hc)) z.at_ (List.mem_map_of_mem hz) e
  · rfl
theorem liveY_eq {h : LH} (k : LOk h) {roots : List Wd} {K : List Int} (p : RGood h true (roots ++ h.remW) [] K) : h.liveY roots = h.yb.filter fun b => decide (b.at_ ∈ K) := by
  unfold LH.liveY
  refine List.filter_congr fun b hb => ?_
  have h1 := p.iff k (List.mem_append_left _ hb : b ∈ h.all)
  rw [LH.pY_true] at h1
  unfold LH.keep
  exact decide_eq_decide.2 h1.symm
theorem live_ne {h : LH} (k : LOk h) (roots : List Wd) : ∀ b ∈ h.liveY roots, b.at_ ≠ 0 := fun b hb => by
  have := k.pos2 (List.mem_append_left _ (liveY_mem hb) : b ∈ h.all); omega
/-! ### Heaps that differ in the order of what is remembered -/
structure LEq (a b : LH) : Prop where
  Y : a.Y = b.Y
  O : a.O = b.O
  yb : a.yb = b.yb
  ob : a.ob = b.ob
  R : ∀ k, k ∈ a.R ↔ k ∈ b.R
theorem LEq.cpl {a b : LH} (e : LEq a b) {r : RH} (c : Cpl b r) : Cpl a r := ⟨e.Y.trans c.Y, e.O.trans c.O, e.yb.trans c.yb, e.ob.trans c.ob, fun k => (e.R k).trans (c.R k)⟩
theorem Cpl.leq {h : LH} {r : RH} (c : Cpl h r) : LEq h r.log := ⟨c.Y, c.O, c.yb, c.ob, c.R⟩
theorem Cpl.log (r : RH) : Cpl r.log r := ⟨rfl, rfl, rfl, rfl, fun _ => Iff.rfl⟩
theorem LEq.step {a b : LH} (e : LEq a b) {w w' : World} {base : Nat} {r : RH} (s : RStep w base r b w') : RStep w base r a w' := by
  obtain ⟨r', h1, h2, h3, h4, h5⟩ := s
  exact ⟨r', h1, h2, e.cpl h3, h4, h5⟩
theorem LEq.all {a b : LH} (e : LEq a b) : a.all = b.all := by unfold LH.all; rw [e.yb, e.ob]
theorem LEq.find {a b : LH} (e : LEq a b) : a.find = b.find := by funext k; unfold LH.find; rw [e.all]
theorem LEq.bad {a b : LH} (e : LEq a b) : a.bad = b.bad := by funext u; unfold LH.bad; rw [e.find]
theorem LEq.isY {a b : LH} (e : LEq a b) : a.isY = b.isY := by funext x; unfold LH.isY; rw [e.Y]
theorem LEq.remW {a b : LH} (e : LEq a b) (u : Wd) : u ∈ a.remW ↔ u ∈ b.remW := by
  have h1 : u ∈ remOf a a.R ↔ u ∈ remOf b b.R := by
    rw [remOf_mem, remOf_mem, e.find]
    constructor
    · rintro ⟨k, hk, h⟩; exact ⟨k, (e.R k).1 hk, h⟩
    · rintro ⟨k, hk, h⟩; exact ⟨k, (e.R k).2 hk, h⟩
  exact h1
theorem LEq.liveY {a b : LH} (e : LEq a b) (roots : List Wd) : a.liveY roots = b.liveY roots := by
  unfold LH.liveY LH.keep
  rw [e.yb, e.find, e.isY]
  refine List.filter_congr fun x _ => decide_eq_decide.2 ⟨fun h => h.mono fun u hu => ?_, fun h => h.mono fun u hu => ?_⟩
  · rcases List.mem_append.1 hu with hu | hu
    · exact List.mem_append_left _ hu
    · exact List.mem_append_right _ ((e.remW u).1 hu)
  · rcases List.mem_append.1 hu with hu | hu
    · exact List.mem_append_left _ hu
    · exact List.mem_append_right _ ((e.remW u).2 hu)
theorem LEq.minorF {a b : LH} (e : LEq a b) (roots : List Wd) : a.minorF roots = b.minorF roots := by
  unfold LH.minorF; rw [e.liveY, e.ob, e.Y]
theorem LEq.minor {a b : LH} (e : LEq a b) (roots : List Wd) : LEq (a.minor roots).1 (b.minor roots).1 ∧ (a.minor roots).2 = (b.minor roots).2 := by
  unfold LH.minor
  rw [e.bad, e.minorF, e.liveY, e.O, e.ob, e.Y]
  split
  · exact ⟨e, rfl⟩
  · split
    · exact ⟨e, rfl⟩
    · exact ⟨⟨rfl, rfl, rfl, rfl, fun _ => Iff.rfl⟩, rfl⟩
theorem LEq.keptO {a b : LH} (e : LEq a b) (roots : List Wd) : a.keptO roots = b.keptO roots := by unfold LH.keptO LH.keep; rw [e.ob, e.find]
theorem LEq.keptY {a b : LH} (e : LEq a b) (roots : List Wd) : a.keptY roots = b.keptY roots := by unfold LH.keptY LH.keep; rw [e.yb, e.find]
theorem LEq.fit {a b : LH} (e : LEq a b) (roots : List Wd) : a.fit roots = b.fit roots := by unfold LH.fit; rw [e.keptO, e.keptY, e.O]
theorem LEq.newO {a b : LH} (e : LEq a b) (roots : List Wd) : a.newO roots = b.newO roots := by unfold LH.newO; rw [e.keptO, e.fit, e.Y]
theorem LEq.newY {a b : LH} (e : LEq a b) (roots : List Wd) : a.newY roots = b.newY roots := by unfold LH.newY; rw [e.fit]
theorem LEq.majorF {a b : LH} (e : LEq a b) (roots : List Wd) : a.majorF roots = b.majorF roots := by unfold LH.majorF; rw [e.keptO, e.fit, e.newO, e.newY]
theorem LEq.toY {a b : LH} (e : LEq a b) : a.toY = b.toY := by funext x; unfold LH.toY; rw [e.Y]
theorem LEq.major {a b : LH} (e : LEq a b) (roots : List Wd) : LEq (a.major roots).1 (b.major roots).1 ∧ (a.major roots).2 = (b.major roots).2 := by
  unfold LH.major
  rw [e.bad, e.majorF, e.newO, e.newY, e.O, e.Y, e.toY]
  split
  · exact ⟨e, rfl⟩
  · exact ⟨⟨rfl, rfl, rfl, rfl, fun _ => Iff.rfl⟩, rfl⟩
end Go.Proofs.Ytikigppfnhilhaa
/- What Minor and Major of the reference share: rows of numbers, blocks moved in a row, the heap anew. -/
namespace Go.Proofs.Ytikigppfnhilhaa
open Go.RowKit Go.Instr
set_option linter.unusedVariables false
set_option linter.unusedSimpArgs false
attribute [local go_sem] Oper.semAt_some

/-- The blocks of a row, one behind the other. -/
def shiftR (s : Int) : List RB → List RB
  | [] => []
  | y :: l => { y with b := { y.b with at_ := s } } :: shiftR (s + (y.b.ws.length + 1)) l
theorem shiftR_map (s : Int) (l : List RB) : (shiftR s l).map RB.b = shift s (l.map RB.b) := by
  induction l generalizing s with
  | nil => rfl
  | cons y l ih => simp only [shiftR, List.map_cons, shift, ih]
theorem shiftR_arr (s : Int) (l : List RB) : (shiftR s l).map RB.arr = l.map RB.arr := by
  induction l generalizing s with
  | nil => rfl
  | cons y l ih => simp only [shiftR, List.map_cons, ih]
theorem shiftR_append (s : Int) (a b : List RB) : shiftR s (a ++ b) = shiftR s a ++ shiftR (s + bused (a.map RB.b)) b := by
  induction a generalizing s with
  | nil => simp [shiftR, bused]
  | cons y a ih =>
    simp only [List.cons_append, shiftR, ih, List.map_cons, bused_cons]
    rw [Int.add_assoc]
theorem shiftR_one (s : Int) (y : RB) : shiftR s [y] = [{ y with b := { y.b with at_ := s } }] := rfl
theorem shiftR_length (s : Int) (l : List RB) : (shiftR s l).length = l.length := by
  have := congrArg List.length (shiftR_arr s l); simpa using this
theorem shiftR_mem {s : Int} {l : List RB} {z : RB} (h : z ∈ shiftR s l) : ∃ y ∈ l, z.arr = y.arr ∧ z.b.ws = y.b.ws := by
  induction l generalizing s with
  | nil => cases h
  | cons y l ih =>
    rcases List.mem_cons.1 h with rfl | h
    · exact ⟨y, by simp, rfl, rfl⟩
    · obtain ⟨x, hx, e⟩ := ih h; exact ⟨x, by simp [hx], e⟩
theorem wosR_shift {w : World} {s : Int} {l : List RB} (h : wosR w l) : wosR w (shiftR s l) := fun z hz => by
  obtain ⟨y, hy, e1, e2⟩ := shiftR_mem hz
  rw [e1, e2]; exact h y hy
theorem shift_take (s : Int) (l : List Bk) {k : Nat} {b : Bk} (hb : l[k]? = some b) : (shift s (l.take (k + 1))).map Bk.at_ = (shift s (l.take k)).map Bk.at_ ++ [s + bused (l.take k)] := by
  rw [List.take_add_one, hb]
  show (shift s (l.take k ++ [b])).map Bk.at_ = _
  rw [shift_append, List.map_append]; rfl
theorem bused_take {l : List Bk} {k : Nat} {b : Bk} (hb : l[k]? = some b) : bused (l.take (k + 1)) = bused (l.take k) + (b.ws.length + 1) := by
  rw [List.take_add_one, hb]
  show bused (l.take k ++ [b]) = _
  rw [bused_append]; simp [bused]
/-- One number appended to a row of numbers. -/
theorem wpList_append_I {w : World} {ops : Array Oper} {rest : List Oper} {o : Oper} {a : Act} {Q : Exit → Act → World → Prop} (hgd : o.guard = none) (s x : Operand)
    (ho : o.op = .call { callee := .builtin .append, args := #[s, x], argTypes := #[52, 52] })
    (base : Nat) (v : Value) (l1 : List Int) (hs : a.eval s = v) (hown : w.ownsRow base 3 1 v l1.length (l1.map (Value.int .i64))) (g : Nat) (n : Int) (hx : a.eval x = .slice (some ⟨g, 0, none⟩) 1 1) (hc : w.cell? ⟨g, 0, none⟩ = some (.int .i64 n))
    (hl : l1.length ≤ 1000000) (hbase : base ≤ w.heap.size)
    (h : ∀ v' w', w'.ownsRow base 3 1 v' (l1 ++ [n]).length ((l1 ++ [n]).map (Value.int .i64)) → w.grownBy w' v.ownBlock → (∀ k, v'.ownBlock = some k → v.ownBlock = some k ∨ w.heap.size ≤ k) → wpList Try.prog ops Q rest (a.put o.dst v') w') : wpList Try.prog ops Q (o :: rest) a w := by
  obtain ⟨i0, hi, hz0, hz1, hz2⟩ := info_parts info_intG
  refine wpList_append_fresh hgd s x 52 ho base 3 i0 _ 1 8 Try.underlying52 hi hz0 hz1 hz2 rfl (by decide) v l1.length _ hs hown ⟨g, 0, none⟩ 1 1 [Value.int .i64 n] hx rfl (fun j u hu => ?_) (intOne [n]) (by unfold maxLen; omega) (by omega) hbase ?_
  · cases j with
    | zero =>
      simp at hu; subst hu
      have : (⟨g, 0, none⟩ : Addr).add 0 = ⟨g, 0, none⟩ := rfl
      rw [this]; exact hc
    | succ j => simp at hu
  · intro v' w' g1 g2 _ g4
    refine h v' w' ?_ g2 g4
    rw [List.map_append, List.length_append]; exact g1
/-- The reference's heap, all of whose parts are new. -/
theorem RRep.mk2 {W : World} {base n : Nat} {r : RH} (hb : Blk W r.rp r.cells 69) (hrp : base ≤ r.rp) (hn : base ≤ n) (hy : FreshRow n W r.ya r.yb) (ho : FreshRow n W r.oa r.ob)
    (hm : W.ownsRow n 3 1 r.ma r.M.length (r.M.map (Value.int .i64))) (hd : ∀ k, r.ya.ownBlock = some k → r.oa.ownBlock ≠ some k) (hyo : ∀ y ∈ r.yb, ∀ z ∈ r.ob, y.arr ≠ z.arr)
    (hs : r.M.Pairwise (· < ·)) (hms : ∀ k ∈ r.M, k ∈ (r.ob.map RB.b).map Bk.at_) (ok : LOk r.log) (Y1 : r.Y ≤ 1000) (O1 : r.O ≤ 1000) : RRep W base r :=
  { blk := hb
    yrow := ownsRow_base hy.row hn
    orow := ownsRow_base ho.row hn
    mrow := ownsRow_base hm hn
    rows := hd
    wo := fun y hm => by
      rcases List.mem_append.1 hm with hm | hm
      · exact hy.wo y hm
      · exact ho.wo y hm
    arrs := by
      unfold RH.all
      rw [List.map_append, List.nodup_append]
      refine ⟨hy.nd, ho.nd, fun a ha b hb e => ?_⟩
      obtain ⟨y, hy1, rfl⟩ := List.mem_map.1 ha
      obtain ⟨z, hz1, rfl⟩ := List.mem_map.1 hb
      exact hyo y hy1 z hz1 e
    base_ := fun k hk => by
      rcases hk with rfl | hk | hk | hk | hk
      · exact hrp
      · have := (hy.row.lt k hk.symm).1; omega
      · have := (ho.row.lt k hk.symm).1; omega
      · have := (hm.lt k hk.symm).1; omega
      · obtain ⟨y, hym, rfl⟩ := List.mem_map.1 hk
        rcases List.mem_append.1 hym with hym | hym
        · have := hy.low y hym; omega
        · have := ho.low y hym; omega
    sorted := hs
    msub := hms
    ok := ok
    Y1 := Y1
    O1 := O1 }
theorem fp_mk2 {W : World} {n : Nat} {r : RH} (hy : FreshRow n W r.ya r.yb) (ho : FreshRow n W r.oa r.ob) (hm : W.ownsRow n 3 1 r.ma r.M.length (r.M.map (Value.int .i64))) (k : Nat) (hk : r.fp k) : k = r.rp ∨ n ≤ k := by
  rcases hk with rfl | hk | hk | hk | hk
  · exact .inl rfl
  · exact .inr (hy.row.lt k hk.symm).1
  · exact .inr (ho.row.lt k hk.symm).1
  · exact .inr (hm.lt k hk.symm).1
  · obtain ⟨y, hym, rfl⟩ := List.mem_map.1 hk
    rcases List.mem_append.1 hym with hym | hym
    · exact .inr (hy.low y hym)
    · exact .inr (ho.low y hym)
theorem remOf_take {h : LH} {l : List Int} {k : Nat} {a : Int} {b : Bk} (ha : l[k]? = some a) (hf : h.find a = some b) : remOf h (l.take (k + 1)) = remOf h (l.take k) ++ b.ws := by
  rw [List.take_add_one, ha]
  show remOf h (l.take k ++ [a]) = _
  rw [remOf_append, remOf_one h hf]
end Go.Proofs.Ytikigppfnhilhaa
