/- The reference's Strip. (Written by wip/tools/genYS.py.) -/
import Derived.Test.YtlaepkmnbbgbcaaGreatDoorGS9
import Derived.Test.YtlaepkmnbbgbcaaGreatDoorGS6
/- The reference's Strip. (Written by wip/tools/genYS.py.) -/
namespace Go.Proofs.YtlaepkmnbbgbcaaGreatDoor
open Go.RowKit Go.Instr Go.Sort
set_option linter.unusedVariables false
set_option linter.unusedSimpArgs false
attribute [local go_sem] Oper.semAt_some

/-- What holds while it runs. -/
structure RSt (w : World) (b1 : Nat) (V1 : Array Value) (tv rv dv lv iv : Value) (ds : List DeV) (ls : List (Int × Int)) (is : List Ins) (V : World) : Prop where
  ex : Ex w V
  k1 : Blk V b1 V1 28
  k2 : Blk V (b1 + 1) #[.slice none 0 0, .slice none 0 0, .slice none 0 0, .slice none 0 0, .slice none 0 0, .int .i64 0] 36
  ko : Blk V (b1 + 2) #[dv, lv, tv, rv, iv] 28
  rDs : V.ownsRow w.heap.size 50 11 dv ds.length (ds.flatMap encD)
  rLs : V.ownsRow w.heap.size 90 2 lv ls.length (ls.flatMap encL)
  rIs : V.ownsRow w.heap.size 82 3 iv is.length (is.flatMap encN)
section
variable {w : World} {b1 : Nat} {V1 : Array Value} {tv rv dv lv iv : Value} {ds : List DeV} {ls : List (Int × Int)} {is : List Ins} {V V' : World}
theorem RSt.ext (h : RSt w b1 V1 tv rv dv lv iv ds ls is V) (hx : Ex V V') : RSt w b1 V1 tv rv dv lv iv ds ls is V' :=
  ⟨h.ex.trans hx, hx.blk h.k1 id, hx.blk h.k2 id, hx.blk h.ko id, own_kept h.rDs hx, own_kept h.rLs hx, own_kept h.rIs hx⟩
theorem RSt.growD (h : RSt w b1 V1 tv rv dv lv iv ds ls is V) (hg : V.grownBy V' dv.ownBlock) {dv' : Value} {m : DeV} (ho : V'.ownsRow w.heap.size 50 11 dv' (ds.length + 1) (ds.flatMap encD ++ encD m)) (hw : w.heap.size ≤ b1) :
    Blk V' (b1 + 2) #[dv, lv, tv, rv, iv] 28 ∧ RSt w b1 V1 tv rv dv' lv iv (ds ++ [m]) ls is (V'.setCell ⟨b1 + 2, 0, none⟩ dv') := by
  have g := fun {b c t} (hb : Blk V b c t) (hne : t ≠ 50) => grow_blk h.rDs hg hb hne
  have hko := g h.ko (by decide)
  refine ⟨hko, (own_grow_ex h.ex h.rDs hg (Nat.le_refl _)).setCell (.inr (by show w.heap.size ≤ b1 + 2; omega)) _, (g h.k1 (by decide)).far (a := ⟨b1 + 2, 0, none⟩) (by show b1 ≠ b1 + 2; omega) _, (g h.k2 (by decide)).far (a := ⟨b1 + 2, 0, none⟩) (by show b1 + 1 ≠ b1 + 2; omega) _, hko.set 0 dv', ?_, set_row (grow_row h.rDs hg h.rLs (by decide)) hko (by decide) 0 dv', set_row (grow_row h.rDs hg h.rIs (by decide)) hko (by decide) 0 dv'⟩
  have := set_row ho hko (by decide) 0 dv'
  rw [List.length_append, List.flatMap_append]
  simpa using this
theorem RSt.growL (h : RSt w b1 V1 tv rv dv lv iv ds ls is V) (hg : V.grownBy V' lv.ownBlock) {lv' : Value} {m : Int × Int} (ho : V'.ownsRow w.heap.size 90 2 lv' (ls.length + 1) (ls.flatMap encL ++ encL m)) (hw : w.heap.size ≤ b1) :
    Blk V' (b1 + 2) #[dv, lv, tv, rv, iv] 28 ∧ RSt w b1 V1 tv rv dv lv' iv ds (ls ++ [m]) is (V'.setCell ⟨b1 + 2, 1, none⟩ lv') := by
  have g := fun {b c t} (hb : Blk V b c t) (hne : t ≠ 90) => grow_blk h.rLs hg hb hne
  have hko := g h.ko (by decide)
  refine ⟨hko, (own_grow_ex h.ex h.rLs hg (Nat.le_refl _)).setCell (.inr (by show w.heap.size ≤ b1 + 2; omega)) _, (g h.k1 (by decide)).far (a := ⟨b1 + 2, 1, none⟩) (by show b1 ≠ b1 + 2; omega) _, (g h.k2 (by decide)).far (a := ⟨b1 + 2, 1, none⟩) (by show b1 + 1 ≠ b1 + 2; omega) _, hko.set 1 lv', set_row (grow_row h.rLs hg h.rDs (by decide)) hko (by decide) 1 lv', ?_, set_row (grow_row h.rLs hg h.rIs (by decide)) hko (by decide) 1 lv'⟩
  have := set_row ho hko (by decide) 1 lv'
  rw [List.length_append, List.flatMap_append]
  simpa using this
theorem RSt.growI (h : RSt w b1 V1 tv rv dv lv iv ds ls is V) (hg : V.grownBy V' iv.ownBlock) {iv' : Value} {m : Ins} (ho : V'.ownsRow w.heap.size 82 3 iv' (is.length + 1) (is.flatMap encN ++ encN m)) (hw : w.heap.size ≤ b1) :
    Blk V' (b1 + 2) #[dv, lv, tv, rv, iv] 28 ∧ RSt w b1 V1 tv rv dv lv iv' ds ls (is ++ [m]) (V'.setCell ⟨b1 + 2, 4, none⟩ iv') := by
  have g := fun {b c t} (hb : Blk V b c t) (hne : t ≠ 82) => grow_blk h.rIs hg hb hne
  have hko := g h.ko (by decide)
  refine ⟨hko, (own_grow_ex h.ex h.rIs hg (Nat.le_refl _)).setCell (.inr (by show w.heap.size ≤ b1 + 2; omega)) _, (g h.k1 (by decide)).far (a := ⟨b1 + 2, 4, none⟩) (by show b1 ≠ b1 + 2; omega) _, (g h.k2 (by decide)).far (a := ⟨b1 + 2, 4, none⟩) (by show b1 + 1 ≠ b1 + 2; omega) _, hko.set 4 iv', set_row (grow_row h.rIs hg h.rDs (by decide)) hko (by decide) 4 iv', set_row (grow_row h.rIs hg h.rLs (by decide)) hko (by decide) 4 iv', ?_⟩
  have := set_row ho hko (by decide) 4 iv'
  rw [List.length_append, List.flatMap_append]
  simpa using this
end
theorem six_row {V : World} {b : Nat} {c0 : Array Value} {t : TypeId} (hb : Blk V b c0 t) {base : Nat} {e : TypeId} {size n : Nat} {v : Value} {xs : List Value} (hr : V.ownsRow base e size v n xs) (hne : t ≠ e) (v0 v1 v2 v3 v4 v5 : Value) :
    ((((((V.setCell ⟨b, 0, none⟩ v0).setCell ⟨b, 1, none⟩ v1).setCell ⟨b, 2, none⟩ v2).setCell ⟨b, 3, none⟩ v3).setCell ⟨b, 4, none⟩ v4).setCell ⟨b, 5, none⟩ v5).ownsRow base e size v n xs :=
  have h1 := hb.set 0 v0
  have h2 := h1.set 1 v1
  have h3 := h2.set 2 v2
  have h4 := h3.set 3 v3
  have h5 := h4.set 4 v4
  set_row (set_row (set_row (set_row (set_row (set_row hr hb hne 0 v0) h1 hne 1 v1) h2 hne 2 v2) h3 hne 3 v3) h4 hne 4 v4) h5 hne 5 v5
def stripDV (c : Co) (x : DeV) : DeV := ⟨stripD c x.d, x.chain, x.up, x.virts⟩
/-- One instruction more. -/
def stripN (c : Co) (k : Nat) : List Ins := ((c.instrs.take k).filter notMark).map (moveI c)
theorem stripN_mark {c : Co} {k : Nat} {x : Ins} (hx : c.instrs[k]? = some x) (h : x.op = 53) : stripN c (k + 1) = stripN c k := by
  unfold stripN
  rw [List.take_add_one, hx, List.filter_append]
  have : [x].filter notMark = [] := by simp [notMark, h]
  show (_ ++ [x].filter notMark).map _ = _
  rw [this, List.append_nil]
theorem stripN_more {c : Co} {k : Nat} {x : Ins} (hx : c.instrs[k]? = some x) (h : ¬ x.op = 53) : stripN c (k + 1) = stripN c k ++ [moveI c x] := by
  unfold stripN
  rw [List.take_add_one, hx, List.filter_append]
  have : [x].filter notMark = [x] := by simp [notMark, h]
  show (_ ++ [x].filter notMark).map _ = _
  rw [this, List.map_append]; rfl
theorem stripN_len (c : Co) (k : Nat) : (stripN c k).length ≤ c.instrs.length := by
  unfold stripN
  rw [List.length_map]
  exact Nat.le_trans (List.length_filter_le _ _) (by rw [List.length_take]; omega)
/-- What the reference's Strip answers. -/
def RStripR (w : World) (c : Co) (e : Ending) (w' : World) : Prop :=
  if lastOp c = 53 then e = .returned (.agg #[.slice none 0 0, .slice none 0 0, .slice none 0 0, .slice none 0 0, .slice none 0 0, .int .i64 5]) ∧ Ex w w'
  else ∃ dv lv tv rv iv xs, e = .returned (.agg #[dv, lv, tv, rv, iv, .int .i64 0]) ∧ RdCo w' dv lv tv rv iv (stripC c) xs ∧ Ex w w'
theorem last_ins {c : Co} {m : Nat} (hm : c.instrs.length = m + 1) {x : Ins} (hx : c.instrs[m]? = some x) : lastOp c = x.op := by
  unfold lastOp; rw [hm, Nat.add_sub_cancel, List.getD_eq_getElem?_getD, hx]; rfl
set_option maxRecDepth 100000 in
set_option maxHeartbeats 16000000 in
theorem rStrip_any {w : World} {dv lv tv rv iv : Value} {c : Co} {xs : List DeV} (h : RdCo w dv lv tv rv iv c xs) (hb : Big c) (hG : Good c) :
    Calls Tryz.prog 17 #[codeV dv lv tv rv iv] w (RStripR w c) := by
  have HMv : Hid (∀ V, Ex w V → ∀ n : Int, n < c.instrs.length → Calls Tryz.prog 53 #[codeV dv lv tv rv iv, .int .i64 n] V fun e w' => e = .returned (.int .i64 (movedC c n)) ∧ Ex V w') := Lib.hid (fun V hV n hn => rmoved_any (h.ext hV) hb n hn)
  have H := Lib.hid h
  have hlen := h.len
  obtain ⟨da, dc, rfl, -, hd0, -⟩ := id h.ds
  obtain ⟨la, lc, rfl, -, hl0, -⟩ := id h.ls
  obtain ⟨ta, tc, rfl, -⟩ := id h.ts
  obtain ⟨ra, rc, rfl, -⟩ := id h.rs
  obtain ⟨ia, ic, rfl, -, hi0, -⟩ := id h.is
  obtain ⟨m, hm⟩ : ∃ m, c.instrs.length = m + 1 := ⟨c.instrs.length - 1, by have := hG.i1; omega⟩
  obtain ⟨iad, rfl⟩ := rd_some (enc := encN) (w := w) (c := ic) hi0 hm (by omega : m < m + 1)
  obtain ⟨b1, hb1⟩ : ∃ b, w.heap.size = b := ⟨_, rfl⟩
  obtain ⟨V1, hV1⟩ : ∃ V1 : Array Value, #[.slice da xs.length dc, .slice la c.labels.length lc, .slice ta c.texts.length tc, .slice ra c.reals.length rc, .slice (some iad) c.instrs.length ic] = V1 := ⟨_, rfl⟩
  obtain ⟨W1, hW1⟩ : ∃ W1, w.alloc (.cells #[.slice da xs.length dc, .slice la c.labels.length lc, .slice ta c.texts.length tc, .slice ra c.reals.length rc, .slice (some iad) c.instrs.length ic] 28) = W1 := ⟨_, rfl⟩
  have hX01 : Ex w W1 := by rw [← hW1]; exact (Keeps.refl _ w).alloc _
  have hB01 : Blk W1 b1 V1 28 := by rw [← hV1, ← hW1, ← hb1]; exact Blk.new w _ _
  have hs1 : W1.heap.size = b1 + 1 := by rw [← hW1, World.size_alloc, hb1]
  obtain ⟨W2, hW2⟩ : ∃ W2, W1.alloc (.cells #[.slice none 0 0, .slice none 0 0, .slice none 0 0, .slice none 0 0, .slice none 0 0, .int .i64 0] 36) = W2 := ⟨_, rfl⟩
  have hX12 : Ex W1 W2 := by rw [← hW2]; exact (Keeps.refl _ W1).alloc _
  have hB2 : Blk W2 (b1 + 1) #[.slice none 0 0, .slice none 0 0, .slice none 0 0, .slice none 0 0, .slice none 0 0, .int .i64 0] 36 := by rw [← hW2, ← hs1]; exact Blk.new W1 _ _
  have hs2 : W2.heap.size = b1 + 2 := by rw [← hW2, World.size_alloc, hs1]
  have hB1 := hX12.blk hB01 id
  have HF : ∀ V, Blk V b1 V1 28 → Hid (V.cell? ⟨b1, 0, none⟩ = some (.slice da xs.length dc) ∧ V.cell? ⟨b1, 1, none⟩ = some (.slice la c.labels.length lc) ∧ V.cell? ⟨b1, 2, none⟩ = some (.slice ta c.texts.length tc) ∧ V.cell? ⟨b1, 3, none⟩ = some (.slice ra c.reals.length rc) ∧ V.cell? ⟨b1, 4, none⟩ = some (.slice (some iad) c.instrs.length ic)) := fun V hV => by
    subst hV1
    exact ⟨(hV.cell 0).trans rfl, (hV.cell 1).trans rfl, (hV.cell 2).trans rfl, (hV.cell 3).trans rfl, (hV.cell 4).trans rfl⟩
  obtain ⟨x0, x1, x2, x3, x4⟩ := (HF W2 hB1).out
  obtain ⟨z, hz⟩ : ∃ z, c.instrs[m]? = some z := ⟨_, List.getElem?_eq_getElem (by omega)⟩
  have hlast := last_ins hm hz
  obtain ⟨Z, hZ⟩ : ∃ Z, iad.add (m * 3) = Z := ⟨_, rfl⟩
  obtain ⟨y0, -, -⟩ := (h.is.ext (hX01.trans hX12)).insCells hz hZ
  have n0 : xs.length ≤ 1000000 := by have := hb.d; omega
  have n1 : c.labels.length ≤ 1000000 := hb.l
  have n4 : c.instrs.length ≤ 1000000 := hb.i
  have HX02 := Lib.hid (hX01.trans hX12)
  have HLen := Lib.hid hlen; have Hd0 := Lib.hid hd0; have Hl0 := Lib.hid hl0; have HG := Lib.hid hG; have Hb1 := Lib.hid hb1
  have HW1 := Lib.hid hW1; have HW2 := Lib.hid hW2; have Hs1 := Lib.hid hs1; have Hs2 := Lib.hid hs2; have HB1 := Lib.hid hB1; have HB2 := Lib.hid hB2
  have hw1 : w.heap.size ≤ b1 := by omega
  have HLast := Lib.hid hlast
  have s1 : IntKind.i64.wrap ((m : Int) + 1 - 1) = (m : Int) := by simp [IntKind.wrap_i64]; omega
  have s2 : IntKind.i64.wrap ((c.instrs.length : Int) - 1) = (m : Int) := by rw [hm]; simp [IntKind.wrap_i64]; omega
  have s3 : (m : Int) < c.instrs.length := by omega
  have Hm := Lib.hid hm
  clear hlen hd0 hl0 hi0 h hW1 hW2 hs1 hs2 hB1 hB2 hX01 hX12 hB01 hlast hz hb1 hG hb hm hV1
  generalize hM : RStripR w c = M
  have HM := Lib.hid hM
  clear hM
  unfold codeV at HMv ⊢
  go_enter Tryz.func17, Tryz.ntmps17
  go_upto_region 1 with fail
  rw [HW1.out]
  try rw [Hb1.out]
  try rw [HW2.out]
  try rw [Hs1.out]
  by_cases h53 : z.op = 53
  · have h53b : (z.op == 53) = true := by simpa using h53
    have c0 : ∀ j, W2.cell? ⟨b1 + 1, j, none⟩ = #[(.slice none 0 0 : Value), .slice none 0 0, .slice none 0 0, .slice none 0 0, .slice none 0 0, .int .i64 0][j]? := fun j => HB2.out.cell j
    have q0 : W2.cell? ⟨b1 + 1, 0, none⟩ = some (.slice none 0 0) := (c0 0).trans rfl
    have q1 : W2.cell? ⟨b1 + 1, 1, none⟩ = some (.slice none 0 0) := (c0 1).trans rfl
    have q2 : W2.cell? ⟨b1 + 1, 2, none⟩ = some (.slice none 0 0) := (c0 2).trans rfl
    have q3 : W2.cell? ⟨b1 + 1, 3, none⟩ = some (.slice none 0 0) := (c0 3).trans rfl
    have q4 : W2.cell? ⟨b1 + 1, 4, none⟩ = some (.slice none 0 0) := (c0 4).trans rfl
    have q5 : W2.cell? ⟨b1 + 1, 5, none⟩ = some (.int .i64 0) := (c0 5).trans rfl
    have f0 : ∀ j, W2.frozen? ⟨b1 + 1, j, none⟩ = false := fun j => HB2.out.frozen _
    clear c0
    go_wp2_with fail
    have hBr := ((((((HB2.out.set 0 (.slice none 0 0)).set 1 (.slice none 0 0)).set 2 (.slice none 0 0)).set 3 (.slice none 0 0)).set 4 (.slice none 0 0)).set 5 (.int .i64 5))
    refine bodyPost_ret (results_cell_row rfl _ _ (b1 + 1) 36 _ (0, 0) _ rfl hBr Tryz.underlying36 rfl (by kernel_rfl)) rfl ?_
    rw [← HM.out]
    unfold RStripR
    rw [if_pos (by rw [HLast.out]; exact h53)]
    refine ⟨rfl, ?_⟩
    have k : ∀ {V : World}, Ex w V → ∀ (j : Nat) (v : Value), Ex w (V.setCell ⟨b1 + 1, j, none⟩ v) := fun hV j v => hV.setCell (.inr (by show w.heap.size ≤ b1 + 1; omega)) v
    exact k (k (k (k (k (k HX02.out 0 _) 1 _) 2 _) 3 _) 4 _) 5 _
  have h53b : (z.op == 53) = false := by simpa using h53
  have Hne : Hid (¬ lastOp c = 53) := Lib.hid (by rw [HLast.out]; exact h53)
  obtain ⟨W3, hW3⟩ : ∃ W3, W2.alloc (.cells #[.slice none 0 0, .slice none 0 0, .slice ta c.texts.length tc, .slice ra c.reals.length rc, .slice none 0 0] 28) = W3 := ⟨_, rfl⟩
  have hX23 : Ex W2 W3 := by rw [← hW3]; exact (Keeps.refl _ W2).alloc _
  have HSt : Hid (RSt w b1 V1 (.slice ta c.texts.length tc) (.slice ra c.reals.length rc) (.slice none 0 0) (.slice none 0 0) (.slice none 0 0) ((xs.take 0).map (stripDV c)) ((c.labels.take 0).map (stripL c)) (stripN c 0) W3) := Lib.hid
    ⟨HX02.out.trans hX23, hX23.blk HB1.out id, hX23.blk HB2.out id, by rw [← hW3, ← Hs2.out]; exact Blk.new W2 _ _, World.ownsRow_nil W3 _ _ 11, World.ownsRow_nil W3 _ _ 2, World.ownsRow_nil W3 _ _ 3⟩
  have HW3 := Lib.hid hW3
  clear hW3 hX23
  go_upto_region 4 with fail
  rw [HW3.out]
  try rw [Hs2.out]
  clear x0 x1 x2 x3 x4 y0 s1 s2 s3 h53 h53b
  go_wp2_with fail
  go_loopw [4] (fun s wr => ∃ (k : Nat) (dv : Value), k ≤ xs.length ∧ s = .int .i64 k ∧ Hid (RSt w b1 V1 (.slice ta c.texts.length tc) (.slice ra c.reals.length rc) dv (.slice none 0 0) (.slice none 0 0) ((xs.take k).map (stripDV c)) ((c.labels.take 0).map (stripL c)) (stripN c 0) wr)) (fun s wr => xs.length - (intOf s).toNat)
  case atStart => exact ⟨0, _, Nat.zero_le _, rfl, HSt⟩
  case round =>
  clear HSt
  obtain ⟨k, dv, hk, rfl, HS⟩ := hrel
  obtain ⟨x0, x1, x2, x3, x4⟩ := (HF wr HS.out.k1).out
  by_cases hlt : k < xs.length
  case pos =>
    obtain ⟨dad, rfl⟩ := rd_some (enc := encD) (w := w) (c := dc) Hd0.out rfl hlt
    obtain ⟨x, hx⟩ : ∃ v, xs[k]? = some v := ⟨_, List.getElem?_eq_getElem hlt⟩
    obtain ⟨A, hA⟩ : ∃ A, dad.add (k * 11) = A := ⟨_, rfl⟩
    have zx := (H.out.ds.ext HS.out.ex).deCells hx hA
    have hdx := H.out.de x (List.mem_of_getElem? hx)
    have hpl := good_desc HG.out (d := x.d) (by rw [← H.out.eq]; exact List.mem_map.2 ⟨_, List.mem_of_getElem? hx, rfl⟩)
    have Hx := Lib.hid hx
    obtain ⟨d, cv, uv, vv⟩ := x
    obtain ⟨ca, cc, e1, -⟩ := id hdx.chain
    obtain ⟨ua, uc, e2, -⟩ := id hdx.up
    obtain ⟨va, vc, e3, -⟩ := id hdx.virts
    simp only at e1 e2 e3 zx hpl
    subst e1; subst e2; subst e3
    obtain ⟨g1, g2, g3, g4⟩ := hpl
    obtain ⟨z0, z1, z2, z3, z4, z5, z6, z7, z8, z9, z10⟩ := zx
    obtain ⟨W6, hW6⟩ : ∃ W6, wr.alloc (.cells #[.int .i64 d.around, .slice ca d.chain.length cc, .slice ua d.up.length uc, .int .i64 d.offset, .int .i64 d.cells, .slice va d.virts.length vc, .int .i64 d.init, .int .i64 d.enter, .int .i64 d.do_, .int .i64 d.exit, .int .i64 d.stack] 50) = W6 := ⟨_, rfl⟩
    obtain ⟨b6, hb6⟩ : ∃ b, wr.heap.size = b := ⟨_, rfl⟩
    have hX6 : Ex wr W6 := by rw [← hW6]; exact (Keeps.refl _ wr).alloc _
    have HB6 : Hid (Blk W6 b6 #[.int .i64 d.around, .slice ca d.chain.length cc, .slice ua d.up.length uc, .int .i64 d.offset, .int .i64 d.cells, .slice va d.virts.length vc, .int .i64 d.init, .int .i64 d.enter, .int .i64 d.do_, .int .i64 d.exit, .int .i64 d.stack] 50) := Lib.hid (by rw [← hW6, ← hb6]; exact Blk.new wr _ _)
    have hwb : wr.heap.size ≤ b6 := by omega
    have HX6 := Lib.hid hX6; have HW6 := Lib.hid hW6; have Hb6 := Lib.hid hb6
    clear hx hdx hX6 hW6 hb6
    go_upto_region 8 with fail
    rw [HW6.out]
    try rw [Hb6.out]
    clear x0 x1 x2 x3 x4 z0 z1 z2 z3 z4 z5 z6 z7 z8 z9 z10
    obtain ⟨x0, x1, x2, x3, x4⟩ := (HF W6 ((HS.out.ext HX6.out).k1)).out
    have y0 : W6.cell? ⟨b6, 6, none⟩ = some (.int .i64 d.init) := (HB6.out.cell 6).trans rfl
    go_wp2_with fail
    refine (HMv.out _ (HS.out.ex.trans HX6.out) _ g1).mono ?_
    rintro e wm1 ⟨rfl, hx5⟩
    have HB := Lib.hid (hx5.blk HB6.out id)
    have HX := Lib.hid (HX6.out.trans hx5)
    clear hx5 y0 x0 x1 x2 x3 x4
    have y0 : wm1.cell? ⟨b6, 6, none⟩ = some (.int .i64 d.init) := (HB.out.cell 6).trans rfl
    have f0 : wm1.frozen? ⟨b6, 6, none⟩ = false := HB.out.frozen _
    obtain ⟨Wm1, hWm⟩ : ∃ W, wm1.setCell ⟨b6, 6, none⟩ (.int .i64 (movedC c d.init)) = W := ⟨_, rfl⟩
    have HBm1 : Hid (Blk Wm1 b6 #[.int .i64 d.around, .slice ca d.chain.length cc, .slice ua d.up.length uc, .int .i64 d.offset, .int .i64 d.cells, .slice va d.virts.length vc, .int .i64 (movedC c d.init), .int .i64 d.enter, .int .i64 d.do_, .int .i64 d.exit, .int .i64 d.stack] 50) := Lib.hid (by rw [← hWm]; exact HB.out.set 6 _)
    have HXm1 : Hid (Ex wr Wm1) := Lib.hid (by rw [← hWm]; exact HX.out.setCell (.inr hwb) _)
    have HWm := Lib.hid hWm
    clear hWm HB HX
    go_upto_region 9 with fail
    rw [HWm.out]
    clear y0 f0 HWm
    obtain ⟨x0, x1, x2, x3, x4⟩ := (HF Wm1 ((HS.out.ext HXm1.out).k1)).out
    have y0 : Wm1.cell? ⟨b6, 7, none⟩ = some (.int .i64 d.enter) := (HBm1.out.cell 7).trans rfl
    go_wp2_with fail
    refine (HMv.out _ (HS.out.ex.trans HXm1.out) _ g2).mono ?_
    rintro e wm2 ⟨rfl, hx5⟩
    have HB := Lib.hid (hx5.blk HBm1.out id)
    have HX := Lib.hid (HXm1.out.trans hx5)
    clear hx5 y0 x0 x1 x2 x3 x4
    have y0 : wm2.cell? ⟨b6, 7, none⟩ = some (.int .i64 d.enter) := (HB.out.cell 7).trans rfl
    have f0 : wm2.frozen? ⟨b6, 7, none⟩ = false := HB.out.frozen _
    obtain ⟨Wm2, hWm⟩ : ∃ W, wm2.setCell ⟨b6, 7, none⟩ (.int .i64 (movedC c d.enter)) = W := ⟨_, rfl⟩
    have HBm2 : Hid (Blk Wm2 b6 #[.int .i64 d.around, .slice ca d.chain.length cc, .slice ua d.up.length uc, .int .i64 d.offset, .int .i64 d.cells, .slice va d.virts.length vc, .int .i64 (movedC c d.init), .int .i64 (movedC c d.enter), .int .i64 d.do_, .int .i64 d.exit, .int .i64 d.stack] 50) := Lib.hid (by rw [← hWm]; exact HB.out.set 7 _)
    have HXm2 : Hid (Ex wr Wm2) := Lib.hid (by rw [← hWm]; exact HX.out.setCell (.inr hwb) _)
    have HWm := Lib.hid hWm
    clear hWm HB HX
    go_upto_region 10 with fail
    rw [HWm.out]
    clear y0 f0 HWm
    obtain ⟨x0, x1, x2, x3, x4⟩ := (HF Wm2 ((HS.out.ext HXm2.out).k1)).out
    have y0 : Wm2.cell? ⟨b6, 8, none⟩ = some (.int .i64 d.do_) := (HBm2.out.cell 8).trans rfl
    go_wp2_with fail
    refine (HMv.out _ (HS.out.ex.trans HXm2.out) _ g3).mono ?_
    rintro e wm3 ⟨rfl, hx5⟩
    have HB := Lib.hid (hx5.blk HBm2.out id)
    have HX := Lib.hid (HXm2.out.trans hx5)
    clear hx5 y0 x0 x1 x2 x3 x4
    have y0 : wm3.cell? ⟨b6, 8, none⟩ = some (.int .i64 d.do_) := (HB.out.cell 8).trans rfl
    have f0 : wm3.frozen? ⟨b6, 8, none⟩ = false := HB.out.frozen _
    obtain ⟨Wm3, hWm⟩ : ∃ W, wm3.setCell ⟨b6, 8, none⟩ (.int .i64 (movedC c d.do_)) = W := ⟨_, rfl⟩
    have HBm3 : Hid (Blk Wm3 b6 #[.int .i64 d.around, .slice ca d.chain.length cc, .slice ua d.up.length uc, .int .i64 d.offset, .int .i64 d.cells, .slice va d.virts.length vc, .int .i64 (movedC c d.init), .int .i64 (movedC c d.enter), .int .i64 (movedC c d.do_), .int .i64 d.exit, .int .i64 d.stack] 50) := Lib.hid (by rw [← hWm]; exact HB.out.set 8 _)
    have HXm3 : Hid (Ex wr Wm3) := Lib.hid (by rw [← hWm]; exact HX.out.setCell (.inr hwb) _)
    have HWm := Lib.hid hWm
    clear hWm HB HX
    go_upto_region 11 with fail
    rw [HWm.out]
    clear y0 f0 HWm
    obtain ⟨x0, x1, x2, x3, x4⟩ := (HF Wm3 ((HS.out.ext HXm3.out).k1)).out
    have y0 : Wm3.cell? ⟨b6, 9, none⟩ = some (.int .i64 d.exit) := (HBm3.out.cell 9).trans rfl
    go_wp2_with fail
    refine (HMv.out _ (HS.out.ex.trans HXm3.out) _ g4).mono ?_
    rintro e wm4 ⟨rfl, hx5⟩
    have HB := Lib.hid (hx5.blk HBm3.out id)
    have HX := Lib.hid (HXm3.out.trans hx5)
    clear hx5 y0 x0 x1 x2 x3 x4
    have y0 : wm4.cell? ⟨b6, 9, none⟩ = some (.int .i64 d.exit) := (HB.out.cell 9).trans rfl
    have f0 : wm4.frozen? ⟨b6, 9, none⟩ = false := HB.out.frozen _
    obtain ⟨Wm4, hWm⟩ : ∃ W, wm4.setCell ⟨b6, 9, none⟩ (.int .i64 (movedC c d.exit)) = W := ⟨_, rfl⟩
    have HBm4 : Hid (Blk Wm4 b6 #[.int .i64 d.around, .slice ca d.chain.length cc, .slice ua d.up.length uc, .int .i64 d.offset, .int .i64 d.cells, .slice va d.virts.length vc, .int .i64 (movedC c d.init), .int .i64 (movedC c d.enter), .int .i64 (movedC c d.do_), .int .i64 (movedC c d.exit), .int .i64 d.stack] 50) := Lib.hid (by rw [← hWm]; exact HB.out.set 9 _)
    have HXm4 : Hid (Ex wr Wm4) := Lib.hid (by rw [← hWm]; exact HX.out.setCell (.inr hwb) _)
    have HWm := Lib.hid hWm
    clear hWm HB HX
    go_upto_region 12 with fail
    rw [HWm.out]
    clear y0 f0 HWm
    have hS18 := HS.out.ext HXm4.out
    obtain ⟨dva, dvc, rfl⟩ := own_slice hS18.rDs
    have hdl : ((xs.take k).map (stripDV c)).length = k := by rw [List.length_map, List.length_take]; omega
    rw [hdl] at hS18 HS
    obtain ⟨W19, hW19⟩ : ∃ W19, Wm4.alloc (.cells #[.int .i64 d.around, .slice ca d.chain.length cc, .slice ua d.up.length uc, .int .i64 d.offset, .int .i64 d.cells, .slice va d.virts.length vc, .int .i64 (movedC c d.init), .int .i64 (movedC c d.enter), .int .i64 (movedC c d.do_), .int .i64 (movedC c d.exit), .int .i64 d.stack] 50) = W19 := ⟨_, rfl⟩
    obtain ⟨b19, hb19⟩ : ∃ b19, Wm4.heap.size = b19 := ⟨_, rfl⟩
    have hX19 : Ex Wm4 W19 := by rw [← hW19]; exact (Keeps.refl _ _).alloc _
    have hS19 := hS18.ext hX19
    have hnew19 : ∀ (j : Nat) u, (encD (stripDV c ⟨d, .slice ca d.chain.length cc, .slice ua d.up.length uc, .slice va d.virts.length vc⟩))[j]? = some u → W19.cell? ((⟨b19, 0, none⟩ : Addr).add j) = some u := by
      rw [← hW19, ← hb19]; exact cells_new Wm4 _ _
    have o18 : Wm4.cell? ⟨b1 + 2, 0, none⟩ = some (.slice dva k dvc) := (hS18.ko.cell 0).trans rfl
    have r0 : Wm4.cell? ⟨b6, 0, none⟩ = some (.int .i64 d.around) := (HBm4.out.cell 0).trans rfl
    have r1 : Wm4.cell? ⟨b6, 1, none⟩ = some (.slice ca d.chain.length cc) := (HBm4.out.cell 1).trans rfl
    have r2 : Wm4.cell? ⟨b6, 2, none⟩ = some (.slice ua d.up.length uc) := (HBm4.out.cell 2).trans rfl
    have r3 : Wm4.cell? ⟨b6, 3, none⟩ = some (.int .i64 d.offset) := (HBm4.out.cell 3).trans rfl
    have r4 : Wm4.cell? ⟨b6, 4, none⟩ = some (.int .i64 d.cells) := (HBm4.out.cell 4).trans rfl
    have r5 : Wm4.cell? ⟨b6, 5, none⟩ = some (.slice va d.virts.length vc) := (HBm4.out.cell 5).trans rfl
    have r6 : Wm4.cell? ⟨b6, 6, none⟩ = some (.int .i64 (movedC c d.init)) := (HBm4.out.cell 6).trans rfl
    have r7 : Wm4.cell? ⟨b6, 7, none⟩ = some (.int .i64 (movedC c d.enter)) := (HBm4.out.cell 7).trans rfl
    have r8 : Wm4.cell? ⟨b6, 8, none⟩ = some (.int .i64 (movedC c d.do_)) := (HBm4.out.cell 8).trans rfl
    have r9 : Wm4.cell? ⟨b6, 9, none⟩ = some (.int .i64 (movedC c d.exit)) := (HBm4.out.cell 9).trans rfl
    have r10 : Wm4.cell? ⟨b6, 10, none⟩ = some (.int .i64 d.stack) := (HBm4.out.cell 10).trans rfl
    have HS19 := Lib.hid hS19; have HW19 := Lib.hid hW19; have Hb19 := Lib.hid hb19; have HNew19 := Lib.hid hnew19; have Hdl := Lib.hid hdl
    clear hS18 hX19 hS19 hnew19 hW19 hb19 hdl
    go_wp2_with (at_builtin; refine (fun h => h trivial : (True → _) → _) ?_)
    intro _
    rw [HW19.out]
    try rw [Hb19.out]
    clear r0 r1 r2 r3 r4 r5 r6 r7 r8 r9 r10 o18
    obtain ⟨i0, hi, hz0, hz1, hz2⟩ := info_split info_deC
    have hrD := HS19.out.rDs
    rw [Hdl.out] at hrD
    refine wpList_append_fresh rfl _ _ 22 rfl w.heap.size 50 i0 _ 11 136 Tryz.underlying22 hi hz0 hz1 hz2 rfl (by decide) (.slice dva k dvc) k _ rfl hrD ⟨b19, 0, none⟩ 1 1 _ rfl rfl HNew19.out (by intro u hu; simp only [encD, stripDV, stripD, List.mem_cons, List.not_mem_nil, or_false] at hu; rcases hu with rfl | rfl | rfl | rfl | rfl | rfl | rfl | rfl | rfl | rfl | rfl <;> rfl) (by unfold maxLen; omega) (by omega) (by have := HS19.out.ex.size; omega) ?_
    intro v20 w20 g21 g22 _ _
    obtain ⟨va4, vc4, rfl⟩ := own_slice g21
    obtain ⟨hO20, hS21⟩ := HS19.out.growD (dv' := .slice va4 (k + 1) vc4) g22 (by rw [Hdl.out]; exact g21) hw1
    have o20 : w20.cell? ⟨b1 + 2, 0, none⟩ = some (.slice dva k dvc) := (hO20.cell 0).trans rfl
    have f20 : w20.frozen? ⟨b1 + 2, 0, none⟩ = false := hO20.frozen 0
    obtain ⟨W21, hW21⟩ : ∃ W21, w20.setCell ⟨b1 + 2, 0, none⟩ (.slice va4 (k + 1) vc4) = W21 := ⟨_, rfl⟩
    rw [hW21] at hS21
    have hds2 : (xs.take k).map (stripDV c) ++ [stripDV c ⟨d, .slice ca d.chain.length cc, .slice ua d.up.length uc, .slice va d.virts.length vc⟩] = (xs.take (k + 1)).map (stripDV c) := by
      rw [List.take_add_one, Hx.out, List.map_append]; rfl
    rw [hds2] at hS21
    have HS21 := Lib.hid hS21; have HW21 := Lib.hid hW21
    clear g21 g22 hO20 hS21 hW21 hds2 hrD hi
    go_upto_region 6 with fail
    rw [HW21.out]
    clear o20 f20
    go_wp2_with fail
    go_roundw
    case rel => exact ⟨k + 1, _, by omega, by go_num, HS21⟩
    case measure => simp [intOf]; omega
  have hkn : k = xs.length := by omega
  have HSt : Hid (RSt w b1 V1 (.slice ta c.texts.length tc) (.slice ra c.reals.length rc) dv (.slice none 0 0) (.slice none 0 0) ((xs.take xs.length).map (stripDV c)) ((c.labels.take 0).map (stripL c)) (stripN c 0) wr) := Lib.hid (by rw [← hkn]; exact HS.out)
  clear HS
  go_wp2_with fail
  clear x0 x1 x2 x3 x4
  clear hkn
  go_loopw [6] (fun s wr => ∃ (k : Nat) (lv : Value), k ≤ c.labels.length ∧ s = .int .i64 k ∧ Hid (RSt w b1 V1 (.slice ta c.texts.length tc) (.slice ra c.reals.length rc) dv lv (.slice none 0 0) ((xs.take xs.length).map (stripDV c)) ((c.labels.take k).map (stripL c)) (stripN c 0) wr)) (fun s wr => c.labels.length - (intOf s).toNat)
  case atStart => exact ⟨0, _, Nat.zero_le _, rfl, HSt⟩
  case round =>
  clear HSt
  obtain ⟨k, lv, hk, rfl, HS⟩ := hrel
  obtain ⟨x0, x1, x2, x3, x4⟩ := (HF wr HS.out.k1).out
  by_cases hlt : k < c.labels.length
  case pos =>
    obtain ⟨lad, rfl⟩ := rd_some (enc := encL) (w := w) (c := lc) Hl0.out rfl hlt
    obtain ⟨l, hl⟩ : ∃ v, c.labels[k]? = some v := ⟨_, List.getElem?_eq_getElem hlt⟩
    obtain ⟨A, hA⟩ : ∃ A, lad.add (k * 2) = A := ⟨_, rfl⟩
    obtain ⟨z0, z1⟩ := rdL_at (H.out.ls.ext HS.out.ex) hl hA
    have hgl := HG.out.labels l (List.mem_of_getElem? hl)
    have hg1 := good_inside hgl.1
    have hg2 := good_inside hgl.2
    have hll : ((c.labels.take k).map (stripL c)).length = k := by rw [List.length_map, List.length_take]; omega
    obtain ⟨lva, lvc, rfl⟩ := own_slice HS.out.rLs
    rw [hll] at HS
    have o0 : wr.cell? ⟨b1 + 2, 1, none⟩ = some (.slice lva k lvc) := (HS.out.ko.cell 1).trans rfl
    obtain ⟨W4, hW4⟩ : ∃ W4, wr.drew = W4 := ⟨_, rfl⟩
    have hX4 : Ex wr W4 := by rw [← hW4]; exact (Keeps.refl _ _).drew
    have HSof : ∀ V, Ex wr V → V.cell? ⟨b1, 0, none⟩ = some (.slice da xs.length dc) ∧ V.cell? ⟨b1, 1, none⟩ = some (.slice (some lad) c.labels.length lc) ∧ V.cell? ⟨b1, 2, none⟩ = some (.slice ta c.texts.length tc) ∧ V.cell? ⟨b1, 3, none⟩ = some (.slice ra c.reals.length rc) ∧ V.cell? ⟨b1, 4, none⟩ = some (.slice (some iad) c.instrs.length ic) ∧ V.cell? A = some (.int .i64 l.1) ∧ V.cell? ⟨A.block, A.off + 1, none⟩ = some (.int .i64 l.2) ∧ V.cell? ⟨b1 + 2, 1, none⟩ = some (.slice lva k lvc) := fun V hV => ⟨ext_cell hV x0, ext_cell hV x1, ext_cell hV x2, ext_cell hV x3, ext_cell hV x4, ext_cell hV z0, ext_cell hV z1, ext_cell hV o0⟩
    have HQ4 := Lib.hid (HSof W4 hX4)
    have HX4 := Lib.hid hX4; have HW4 := Lib.hid hW4; have Hl := Lib.hid hl; have Hll := Lib.hid hll; have Hg2 := Lib.hid hg2
    have HC0 := Lib.hid (HMv.out W4 (HS.out.ex.trans hX4) l.1 hg1)
    clear hX4 hW4 hl hll hgl hg1 hg2
    go_upto_region 16 with fail
    clear x0 x1 x2 x3 x4 z0 z1 o0
    refine region_U_plain (n := 9) (fun V => V.cell? ⟨b1, 0, none⟩ = some (.slice da xs.length dc) ∧ V.cell? ⟨b1, 1, none⟩ = some (.slice (some lad) c.labels.length lc) ∧ V.cell? ⟨b1, 2, none⟩ = some (.slice ta c.texts.length tc) ∧ V.cell? ⟨b1, 3, none⟩ = some (.slice ra c.reals.length rc) ∧ V.cell? ⟨b1, 4, none⟩ = some (.slice (some iad) c.instrs.length ic) ∧ V.cell? A = some (.int .i64 l.1) ∧ V.cell? ⟨A.block, A.off + 1, none⟩ = some (.int .i64 l.2) ∧ V.cell? ⟨b1 + 2, 1, none⟩ = some (.slice lva k lvc)) 20 (by kernel_rfl) ?_
    rw [HW4.out]
    refine anyU_quiet (a2 := ?a0) 0 rfl rfl rfl (by kernel_rfl) (by kernel_rfl) (by kernel_rfl) (by kernel_rfl) (by kernel_rfl) (by kernel_rfl) (fun _ _ _ _ h => h) HQ4.out ?h0 ?k0
    case h0 => intro W hW K hK; obtain ⟨t0, t1, t2, t3, t4, t5, t6, t7⟩ := hW; go_simp; exact hK
    refine anyU_quiet (a2 := ?a1) 1 rfl rfl rfl (by kernel_rfl) (by kernel_rfl) (by kernel_rfl) (by kernel_rfl) (by kernel_rfl) (by kernel_rfl) (fun _ _ _ _ h => h) HQ4.out ?h1 ?k1
    case h1 => intro W hW K hK; obtain ⟨t0, t1, t2, t3, t4, t5, t6, t7⟩ := hW; go_simp; exact hK
    refine anyU_quiet (a2 := ?a2) 2 rfl rfl rfl (by kernel_rfl) (by kernel_rfl) (by kernel_rfl) (by kernel_rfl) (by kernel_rfl) (by kernel_rfl) (fun _ _ _ _ h => h) HQ4.out ?h2 ?k2
    case h2 => intro W hW K hK; obtain ⟨t0, t1, t2, t3, t4, t5, t6, t7⟩ := hW; go_simp; exact hK
    refine anyU_quiet (a2 := ?a3) 3 rfl rfl rfl (by kernel_rfl) (by kernel_rfl) (by kernel_rfl) (by kernel_rfl) (by kernel_rfl) (by kernel_rfl) (fun _ _ _ _ h => h) HQ4.out ?h3 ?k3
    case h3 => intro W hW K hK; obtain ⟨t0, t1, t2, t3, t4, t5, t6, t7⟩ := hW; go_simp; exact hK
    refine anyU_quiet (a2 := ?a4) 4 rfl rfl rfl (by kernel_rfl) (by kernel_rfl) (by kernel_rfl) (by kernel_rfl) (by kernel_rfl) (by kernel_rfl) (fun _ _ _ _ h => h) HQ4.out ?h4 ?k4
    case h4 => intro W hW K hK; obtain ⟨t0, t1, t2, t3, t4, t5, t6, t7⟩ := hW; go_simp; exact hK
    refine anyU_quiet (a2 := ?a5) 5 rfl rfl rfl (by kernel_rfl) (by kernel_rfl) (by kernel_rfl) (by kernel_rfl) (by kernel_rfl) (by kernel_rfl) (fun _ _ _ _ h => h) HQ4.out ?h5 ?k5
    case h5 => intro W hW K hK; obtain ⟨t0, t1, t2, t3, t4, t5, t6, t7⟩ := hW; go_simp; exact hK
    refine anyU_quiet (a2 := ?a6) 6 rfl rfl rfl (by kernel_rfl) (by kernel_rfl) (by kernel_rfl) (by kernel_rfl) (by kernel_rfl) (by kernel_rfl) (fun _ _ _ _ h => h) HQ4.out ?h6 ?k6
    case h6 => intro W hW K hK; obtain ⟨t0, t1, t2, t3, t4, t5, t6, t7⟩ := hW; go_simp; exact hK
    refine anyU_quiet (a2 := ?a7) 7 rfl rfl rfl (by kernel_rfl) (by kernel_rfl) (by kernel_rfl) (by kernel_rfl) (by kernel_rfl) (by kernel_rfl) (fun _ _ _ _ h => h) HQ4.out ?h7 ?k7
    case h7 => intro W hW K hK; obtain ⟨t0, t1, t2, t3, t4, t5, t6, t7⟩ := hW; go_simp; exact hK
    refine anyU_quiet (a2 := ?a8) 8 rfl rfl rfl (by kernel_rfl) (by kernel_rfl) (by kernel_rfl) (by kernel_rfl) (by kernel_rfl) (by kernel_rfl) (fun _ _ _ _ h => h) HQ4.out ?h8 ?k8
    case h8 => intro W hW K hK; obtain ⟨t0, t1, t2, t3, t4, t5, t6, t7⟩ := hW; go_simp; exact hK
    refine anyU_quiet (a2 := ?a10) 10 rfl rfl rfl (by kernel_rfl) (by kernel_rfl) (by kernel_rfl) (by kernel_rfl) (by kernel_rfl) (by kernel_rfl) (fun _ _ _ _ h => h) HQ4.out ?h10 ?k10
    case h10 => intro W hW K hK; obtain ⟨t0, t1, t2, t3, t4, t5, t6, t7⟩ := hW; go_simp; exact hK
    refine anyU_quiet (a2 := ?a11) 11 rfl rfl rfl (by kernel_rfl) (by kernel_rfl) (by kernel_rfl) (by kernel_rfl) (by kernel_rfl) (by kernel_rfl) (fun _ _ _ _ h => h) HQ4.out ?h11 ?k11
    case h11 => intro W hW K hK; obtain ⟨t0, t1, t2, t3, t4, t5, t6, t7⟩ := hW; go_simp; exact hK
    refine anyU_quiet (a2 := ?a12) 12 rfl rfl rfl (by kernel_rfl) (by kernel_rfl) (by kernel_rfl) (by kernel_rfl) (by kernel_rfl) (by kernel_rfl) (fun _ _ _ _ h => h) HQ4.out ?h12 ?k12
    case h12 => intro W hW K hK; obtain ⟨t0, t1, t2, t3, t4, t5, t6, t7⟩ := hW; go_simp; exact hK
    refine anyU_quiet (a2 := ?a13) 13 rfl rfl rfl (by kernel_rfl) (by kernel_rfl) (by kernel_rfl) (by kernel_rfl) (by kernel_rfl) (by kernel_rfl) (fun _ _ _ _ h => h) HQ4.out ?h13 ?k13
    case h13 => intro W hW K hK; obtain ⟨t0, t1, t2, t3, t4, t5, t6, t7⟩ := hW; go_simp; exact hK
    refine anyU_quiet (a2 := ?a14) 14 rfl rfl rfl (by kernel_rfl) (by kernel_rfl) (by kernel_rfl) (by kernel_rfl) (by kernel_rfl) (by kernel_rfl) (fun _ _ _ _ h => h) HQ4.out ?h14 ?k14
    case h14 => intro W hW K hK; obtain ⟨t0, t1, t2, t3, t4, t5, t6, t7⟩ := hW; go_simp; exact hK
    refine anyU_quiet (a2 := ?a15) 15 rfl rfl rfl (by kernel_rfl) (by kernel_rfl) (by kernel_rfl) (by kernel_rfl) (by kernel_rfl) (by kernel_rfl) (fun _ _ _ _ h => h) HQ4.out ?h15 ?k15
    case h15 => intro W hW K hK; obtain ⟨t0, t1, t2, t3, t4, t5, t6, t7⟩ := hW; go_simp; exact hK
    refine anyU_quiet (a2 := ?a16) 16 rfl rfl rfl (by kernel_rfl) (by kernel_rfl) (by kernel_rfl) (by kernel_rfl) (by kernel_rfl) (by kernel_rfl) (fun _ _ _ _ h => h) HQ4.out ?h16 ?k16
    case h16 => intro W hW K hK; obtain ⟨t0, t1, t2, t3, t4, t5, t6, t7⟩ := hW; go_simp; exact hK
    refine anyU_only 9 rfl (by kernel_rfl) ?_
    gi_wp2_with fail
    refine (callsIn_WF HC0.out).mono ?_
    rintro e w5 ⟨rfl, hx5⟩
    have HX5 := Lib.hid (HX4.out.trans hx5)
    have HQ5 := Lib.hid (HSof w5 HX5.out)
    have HC1 := Lib.hid (HMv.out w5 (HS.out.ex.trans HX5.out) l.2 Hg2.out)
    clear hx5 HC0 HQ4
    gi_wp2
    refine And.intro (.inr HQ5.out) ?_
    refine anyU_only 17 rfl (by kernel_rfl) ?_
    gi_wp2_with fail
    refine (callsIn_WF HC1.out).mono ?_
    rintro e w6 ⟨rfl, hx6⟩
    have HX6 := Lib.hid (HX5.out.trans hx6)
    have HQ6 := Lib.hid (HSof w6 HX6.out)
    clear hx6 HC1 HQ5
    gi_wp2
    refine And.intro (.inr HQ6.out) ?_
    refine anyU_only 18 rfl (by kernel_rfl) ?_
    gi_wp2
    refine And.intro (.inr HQ6.out) ?_
    obtain ⟨W7, hW7⟩ : ∃ W7, w6.alloc (.cells #[.int .i64 (movedC c l.1), .int .i64 (movedC c l.2)] 90) = W7 := ⟨_, rfl⟩
    obtain ⟨b7, hb7⟩ : ∃ b, w6.heap.size = b := ⟨_, rfl⟩
    have hX67 : Ex w6 W7 := by rw [← hW7]; exact (Keeps.refl _ _).alloc _
    have HQ7 := Lib.hid (HSof W7 (HX6.out.trans hX67))
    have hS7 := HS.out.ext (HX6.out.trans hX67)
    have hnew : ∀ (j : Nat) u, (encL (stripL c l))[j]? = some u → W7.cell? ((⟨b7, 0, none⟩ : Addr).add j) = some u := by
      rw [← hW7, ← hb7]; exact cells_new w6 _ _
    obtain ⟨i0, hi, hz0, hz1, hz2⟩ := info_split info_stL
    have hrL := hS7.rLs
    rw [Hll.out] at hrL
    obtain ⟨v8, w8, q8, ho8, hg8, -, -⟩ := append_own_fresh (P := Tryz.prog) W7 w.heap.size 23 23 90 i0 _ 2 16 Tryz.underlying23 hi hz0 hz1 hz2 rfl (by decide) (.slice lva k lvc) k _ hrL ⟨b7, 0, none⟩ 1 1 (encL (stripL c l)) rfl hnew (by intro u hu; simp only [encL, List.mem_cons, List.not_mem_nil, or_false] at hu; rcases hu with rfl | rfl <;> rfl) (by unfold maxLen; omega) (by omega) (by have := hS7.ex.size; omega)
    obtain ⟨lva8, lvc8, rfl⟩ := own_slice ho8
    obtain ⟨hO8, hS9⟩ := hS7.growL (lv' := .slice lva8 (k + 1) lvc8) hg8 (by rw [Hll.out]; exact ho8) hw1
    have o8 : w8.cell? ⟨b1 + 2, 1, none⟩ = some (.slice lva k lvc) := (hO8.cell 1).trans rfl
    have f8 : w8.frozen? ⟨b1 + 2, 1, none⟩ = false := hO8.frozen 1
    obtain ⟨W9, hW9⟩ : ∃ W9, w8.setCell ⟨b1 + 2, 1, none⟩ (.slice lva8 (k + 1) lvc8) = W9 := ⟨_, rfl⟩
    rw [hW9] at hS9
    have hls2 : (c.labels.take k).map (stripL c) ++ [stripL c l] = (c.labels.take (k + 1)).map (stripL c) := by
      rw [List.take_add_one, Hl.out, List.map_append]; rfl
    rw [hls2] at hS9
    have HS9 := Lib.hid hS9; have HW9 := Lib.hid hW9; have HW7 := Lib.hid hW7; have Hb7 := Lib.hid hb7; have HQr := Lib.hid q8
    clear hX67 hS7 hnew hi hrL ho8 hg8 hO8 hS9 hls2 hW9 hW7 hb7 q8
    refine anyU_only 19 rfl (by kernel_rfl) ?_
    gi_wp2
    rw [HW7.out]
    try rw [Hb7.out]
    refine And.intro (.inr HQ7.out) ?_
    refine anyU_only 20 rfl (by kernel_rfl) ?_
    refine wpListIn_append_run rfl _ _ 23 rfl _ HQr.out ?_
    gi_wp2
    refine And.intro (.inl (by kernel_rfl)) ?_
    refine anyU_only 21 rfl (by kernel_rfl) ?_
    gi_wp2
    refine And.intro (.inl (by kernel_rfl)) ?_
    refine anyU_only 22 rfl (by kernel_rfl) ?_
    gi_wp2
    rw [HW9.out]
    refine And.intro (.inl (by kernel_rfl)) ?_
    refine anyU_done (by kernel_rfl) ?_ _
    clear HQ6 HQ7 o8 f8
    go_wp2_with fail
    go_roundw
    case rel => exact ⟨k + 1, _, by omega, by go_num, HS9⟩
    case measure => simp [intOf]; omega
  have hkn : k = c.labels.length := by omega
  have HSt : Hid (RSt w b1 V1 (.slice ta c.texts.length tc) (.slice ra c.reals.length rc) dv lv (.slice none 0 0) ((xs.take xs.length).map (stripDV c)) ((c.labels.take c.labels.length).map (stripL c)) (stripN c 0) wr) := Lib.hid (by rw [← hkn]; exact HS.out)
  clear HS
  go_wp2_with fail
  clear x0 x1 x2 x3 x4
  clear hkn
  go_loopw [7] (fun s wr => ∃ (k : Nat) (iv : Value), k ≤ c.instrs.length ∧ s = .int .i64 k ∧ Hid (RSt w b1 V1 (.slice ta c.texts.length tc) (.slice ra c.reals.length rc) dv lv iv ((xs.take xs.length).map (stripDV c)) ((c.labels.take c.labels.length).map (stripL c)) (stripN c k) wr)) (fun s wr => c.instrs.length - (intOf s).toNat)
  case atStart => exact ⟨0, _, Nat.zero_le _, rfl, HSt⟩
  case round =>
  clear HSt
  obtain ⟨k, iv, hk, rfl, HS⟩ := hrel
  obtain ⟨x0, x1, x2, x3, x4⟩ := (HF wr HS.out.k1).out
  by_cases hlt : k < c.instrs.length
  case pos =>
    obtain ⟨x, hx⟩ : ∃ v, c.instrs[k]? = some v := ⟨_, List.getElem?_eq_getElem hlt⟩
    obtain ⟨A, hA⟩ : ∃ A, iad.add (k * 3) = A := ⟨_, rfl⟩
    obtain ⟨z0, z1, z2⟩ := (H.out.is.ext HS.out.ex).insCells hx hA
    have hxm := List.mem_of_getElem? hx
    have Hx := Lib.hid hx
    obtain ⟨W6, hW6⟩ : ∃ W6, wr.alloc (.cells #[.int .i64 x.op, .int .i64 x.a, .int .i64 x.b] 82) = W6 := ⟨_, rfl⟩
    obtain ⟨b6, hb6⟩ : ∃ b, wr.heap.size = b := ⟨_, rfl⟩
    have hX6 : Ex wr W6 := by rw [← hW6]; exact (Keeps.refl _ wr).alloc _
    have HB6 : Hid (Blk W6 b6 #[.int .i64 x.op, .int .i64 x.a, .int .i64 x.b] 82) := Lib.hid (by rw [← hW6, ← hb6]; exact Blk.new wr _ _)
    have hwb : wr.heap.size ≤ b6 := by omega
    have HX6 := Lib.hid hX6; have HW6 := Lib.hid hW6; have Hb6 := Lib.hid hb6; have Hxm := Lib.hid hxm
    clear hx hX6 hW6 hb6 hxm
    go_upto_region 21 with fail
    rw [HW6.out]
    try rw [Hb6.out]
    clear x0 x1 x2 x3 x4 z0 z1 z2
    have y0 : W6.cell? ⟨b6, 0, none⟩ = some (.int .i64 x.op) := (HB6.out.cell 0).trans rfl
    by_cases hj : x.op = 42 ∨ x.op = 43
    case pos =>
      have hmk : ¬ x.op = 53 := by omega
      have hmb : (x.op != 53) = true := by simpa using hmk
      have HMx : Hid (moveI c x = ⟨x.op, movedC c x.a, x.b⟩) := Lib.hid (by unfold moveI; rw [if_pos hj])
      have HC := Lib.hid (HMv.out W6 (HS.out.ex.trans HX6.out) x.a (good_jump HG.out Hxm.out hj).2)
      obtain ⟨x0, x1, x2, x3, x4⟩ := (HF W6 (HS.out.ext HX6.out).k1).out
      have y1 : W6.cell? ⟨b6, 1, none⟩ = some (.int .i64 x.a) := (HB6.out.cell 1).trans rfl
      by_cases h42 : x.op = 42
      case pos =>
        have e42 : (x.op == 42) = true := by simpa using h42
        clear hj h42
        go_upto_region 22 with fail
        go_wp2_with fail
        refine HC.out.mono ?_
        rintro e w7 ⟨rfl, hx7⟩
        have HB7 := Lib.hid (hx7.blk HB6.out id)
        have HX7 := Lib.hid (HX6.out.trans hx7)
        clear hx7 y0 y1 x0 x1 x2 x3 x4 HC
        have y1 : w7.cell? ⟨b6, 1, none⟩ = some (.int .i64 x.a) := (HB7.out.cell 1).trans rfl
        have f1 : w7.frozen? ⟨b6, 1, none⟩ = false := HB7.out.frozen _
        obtain ⟨Wt, hWt⟩ : ∃ W, w7.setCell ⟨b6, 1, none⟩ (.int .i64 (movedC c x.a)) = W := ⟨_, rfl⟩
        have HBt : Hid (Blk Wt b6 #[.int .i64 x.op, .int .i64 (movedC c x.a), .int .i64 x.b] 82) := Lib.hid (by rw [← hWt]; exact HB7.out.set 1 _)
        have HXt : Hid (Ex wr Wt) := Lib.hid (by rw [← hWt]; exact HX7.out.setCell (.inr hwb) _)
        have HWt := Lib.hid hWt
        clear hWt HB7 HX7
        go_upto_region 23 with fail
        rw [HWt.out]
        clear y1 f1 HWt
        have y0 : Wt.cell? ⟨b6, 0, none⟩ = some (.int .i64 x.op) := (HBt.out.cell 0).trans rfl
        go_upto_region 24 with fail
        clear y0
        have hS18 := HS.out.ext HXt.out
        obtain ⟨iva, ivc, rfl⟩ := own_slice hS18.rIs
        obtain ⟨fl, hfl⟩ : ∃ n, (stripN c k).length = n := ⟨_, rfl⟩
        have hfle := stripN_len c k
        rw [hfl] at hS18 HS hfle
        obtain ⟨W19, hW19⟩ : ∃ W19, Wt.alloc (.cells (encN (moveI c x)).toArray 82) = W19 := ⟨_, rfl⟩
        obtain ⟨b19, hb19⟩ : ∃ b19, Wt.heap.size = b19 := ⟨_, rfl⟩
        have hX19 : Ex Wt W19 := by rw [← hW19]; exact (Keeps.refl _ _).alloc _
        have hS19 := hS18.ext hX19
        have hnew19 : ∀ (j : Nat) u, (encN (moveI c x))[j]? = some u → W19.cell? ((⟨b19, 0, none⟩ : Addr).add j) = some u := by
          rw [← hW19, ← hb19]; exact cells_new Wt _ _
        have o18 : Wt.cell? ⟨b1 + 2, 4, none⟩ = some (.slice iva fl ivc) := (hS18.ko.cell 4).trans rfl
        have r0 : Wt.cell? ⟨b6, 0, none⟩ = some (.int .i64 x.op) := (HBt.out.cell 0).trans rfl
        have r1 : Wt.cell? ⟨b6, 1, none⟩ = some (.int .i64 (movedC c x.a)) := (HBt.out.cell 1).trans rfl
        have r2 : Wt.cell? ⟨b6, 2, none⟩ = some (.int .i64 x.b) := (HBt.out.cell 2).trans rfl
        have hmx : (encN (moveI c x)).toArray = #[.int .i64 x.op, .int .i64 (movedC c x.a), .int .i64 x.b] := by rw [HMx.out]; rfl
        rw [hmx] at hW19
        have HS19 := Lib.hid hS19; have HW19 := Lib.hid hW19; have Hb19 := Lib.hid hb19; have HNew19 := Lib.hid hnew19; have Hfl := Lib.hid hfl
        clear hS18 hX19 hS19 hnew19 hW19 hb19 hfl hmx
        go_wp2_with (at_builtin; refine (fun h => h trivial : (True → _) → _) ?_)
        intro _
        rw [HW19.out]
        try rw [Hb19.out]
        clear r0 r1 r2 o18
        obtain ⟨i0, hi, hz0, hz1, hz2⟩ := info_split info_stN
        have hrI := HS19.out.rIs
        rw [Hfl.out] at hrI
        refine wpList_append_fresh rfl _ _ 26 rfl w.heap.size 82 i0 _ 3 24 Tryz.underlying26 hi hz0 hz1 hz2 rfl (by decide) (.slice iva fl ivc) fl _ rfl hrI ⟨b19, 0, none⟩ 1 1 (encN (moveI c x)) rfl rfl HNew19.out (by intro u hu; simp only [encN, List.mem_cons, List.not_mem_nil, or_false] at hu; rcases hu with rfl | rfl | rfl <;> rfl) (by unfold maxLen; omega) (by omega) (by have := HS19.out.ex.size; omega) ?_
        intro v20 w20 g21 g22 _ _
        obtain ⟨iva4, ivc4, rfl⟩ := own_slice g21
        obtain ⟨hO20, hS21⟩ := HS19.out.growI (iv' := .slice iva4 (fl + 1) ivc4) g22 (by rw [Hfl.out]; exact g21) hw1
        have o20 : w20.cell? ⟨b1 + 2, 4, none⟩ = some (.slice iva fl ivc) := (hO20.cell 4).trans rfl
        have f20 : w20.frozen? ⟨b1 + 2, 4, none⟩ = false := hO20.frozen 4
        obtain ⟨W21, hW21⟩ : ∃ W21, w20.setCell ⟨b1 + 2, 4, none⟩ (.slice iva4 (fl + 1) ivc4) = W21 := ⟨_, rfl⟩
        rw [hW21, ← stripN_more Hx.out hmk] at hS21
        have HS21 := Lib.hid hS21; have HW21 := Lib.hid hW21
        clear g21 g22 hO20 hS21 hW21 hrI hi
        go_upto_region 19 with fail
        rw [HW21.out]
        clear o20 f20
        go_wp2_with fail
        go_roundw
        case rel => exact ⟨k + 1, _, by omega, by go_num, HS21⟩
        case measure => simp [intOf]; omega
      case neg =>
        have e42 : (x.op == 42) = false := by simpa using h42
        have e43 : (x.op == 43) = true := by rcases hj with h | h; · exact absurd h h42
                                             · simpa using h
        clear hj h42
        go_upto_region 22 with fail
        go_wp2_with fail
        refine HC.out.mono ?_
        rintro e w7 ⟨rfl, hx7⟩
        have HB7 := Lib.hid (hx7.blk HB6.out id)
        have HX7 := Lib.hid (HX6.out.trans hx7)
        clear hx7 y0 y1 x0 x1 x2 x3 x4 HC
        have y1 : w7.cell? ⟨b6, 1, none⟩ = some (.int .i64 x.a) := (HB7.out.cell 1).trans rfl
        have f1 : w7.frozen? ⟨b6, 1, none⟩ = false := HB7.out.frozen _
        obtain ⟨Wt, hWt⟩ : ∃ W, w7.setCell ⟨b6, 1, none⟩ (.int .i64 (movedC c x.a)) = W := ⟨_, rfl⟩
        have HBt : Hid (Blk Wt b6 #[.int .i64 x.op, .int .i64 (movedC c x.a), .int .i64 x.b] 82) := Lib.hid (by rw [← hWt]; exact HB7.out.set 1 _)
        have HXt : Hid (Ex wr Wt) := Lib.hid (by rw [← hWt]; exact HX7.out.setCell (.inr hwb) _)
        have HWt := Lib.hid hWt
        clear hWt HB7 HX7
        go_upto_region 23 with fail
        rw [HWt.out]
        clear y1 f1 HWt
        have y0 : Wt.cell? ⟨b6, 0, none⟩ = some (.int .i64 x.op) := (HBt.out.cell 0).trans rfl
        go_upto_region 24 with fail
        clear y0
        have hS18 := HS.out.ext HXt.out
        obtain ⟨iva, ivc, rfl⟩ := own_slice hS18.rIs
        obtain ⟨fl, hfl⟩ : ∃ n, (stripN c k).length = n := ⟨_, rfl⟩
        have hfle := stripN_len c k
        rw [hfl] at hS18 HS hfle
        obtain ⟨W19, hW19⟩ : ∃ W19, Wt.alloc (.cells (encN (moveI c x)).toArray 82) = W19 := ⟨_, rfl⟩
        obtain ⟨b19, hb19⟩ : ∃ b19, Wt.heap.size = b19 := ⟨_, rfl⟩
        have hX19 : Ex Wt W19 := by rw [← hW19]; exact (Keeps.refl _ _).alloc _
        have hS19 := hS18.ext hX19
        have hnew19 : ∀ (j : Nat) u, (encN (moveI c x))[j]? = some u → W19.cell? ((⟨b19, 0, none⟩ : Addr).add j) = some u := by
          rw [← hW19, ← hb19]; exact cells_new Wt _ _
        have o18 : Wt.cell? ⟨b1 + 2, 4, none⟩ = some (.slice iva fl ivc) := (hS18.ko.cell 4).trans rfl
        have r0 : Wt.cell? ⟨b6, 0, none⟩ = some (.int .i64 x.op) := (HBt.out.cell 0).trans rfl
        have r1 : Wt.cell? ⟨b6, 1, none⟩ = some (.int .i64 (movedC c x.a)) := (HBt.out.cell 1).trans rfl
        have r2 : Wt.cell? ⟨b6, 2, none⟩ = some (.int .i64 x.b) := (HBt.out.cell 2).trans rfl
        have hmx : (encN (moveI c x)).toArray = #[.int .i64 x.op, .int .i64 (movedC c x.a), .int .i64 x.b] := by rw [HMx.out]; rfl
        rw [hmx] at hW19
        have HS19 := Lib.hid hS19; have HW19 := Lib.hid hW19; have Hb19 := Lib.hid hb19; have HNew19 := Lib.hid hnew19; have Hfl := Lib.hid hfl
        clear hS18 hX19 hS19 hnew19 hW19 hb19 hfl hmx
        go_wp2_with (at_builtin; refine (fun h => h trivial : (True → _) → _) ?_)
        intro _
        rw [HW19.out]
        try rw [Hb19.out]
        clear r0 r1 r2 o18
        obtain ⟨i0, hi, hz0, hz1, hz2⟩ := info_split info_stN
        have hrI := HS19.out.rIs
        rw [Hfl.out] at hrI
        refine wpList_append_fresh rfl _ _ 26 rfl w.heap.size 82 i0 _ 3 24 Tryz.underlying26 hi hz0 hz1 hz2 rfl (by decide) (.slice iva fl ivc) fl _ rfl hrI ⟨b19, 0, none⟩ 1 1 (encN (moveI c x)) rfl rfl HNew19.out (by intro u hu; simp only [encN, List.mem_cons, List.not_mem_nil, or_false] at hu; rcases hu with rfl | rfl | rfl <;> rfl) (by unfold maxLen; omega) (by omega) (by have := HS19.out.ex.size; omega) ?_
        intro v20 w20 g21 g22 _ _
        obtain ⟨iva4, ivc4, rfl⟩ := own_slice g21
        obtain ⟨hO20, hS21⟩ := HS19.out.growI (iv' := .slice iva4 (fl + 1) ivc4) g22 (by rw [Hfl.out]; exact g21) hw1
        have o20 : w20.cell? ⟨b1 + 2, 4, none⟩ = some (.slice iva fl ivc) := (hO20.cell 4).trans rfl
        have f20 : w20.frozen? ⟨b1 + 2, 4, none⟩ = false := hO20.frozen 4
        obtain ⟨W21, hW21⟩ : ∃ W21, w20.setCell ⟨b1 + 2, 4, none⟩ (.slice iva4 (fl + 1) ivc4) = W21 := ⟨_, rfl⟩
        rw [hW21, ← stripN_more Hx.out hmk] at hS21
        have HS21 := Lib.hid hS21; have HW21 := Lib.hid hW21
        clear g21 g22 hO20 hS21 hW21 hrI hi
        go_upto_region 19 with fail
        rw [HW21.out]
        clear o20 f20
        go_wp2_with fail
        go_roundw
        case rel => exact ⟨k + 1, _, by omega, by go_num, HS21⟩
        case measure => simp [intOf]; omega
    have e42 : (x.op == 42) = false := by rw [beq_eq_false_iff_ne]; omega
    have e43 : (x.op == 43) = false := by rw [beq_eq_false_iff_ne]; omega
    have HMx : Hid (moveI c x = ⟨x.op, x.a, x.b⟩) := Lib.hid (by unfold moveI; rw [if_neg hj])
    clear hj
    by_cases hmk : x.op = 53
    case pos =>
      have hmb : (x.op != 53) = false := by simpa using hmk
      have hS21 := HS.out.ext HX6.out
      rw [← stripN_mark Hx.out hmk] at hS21
      have HS21 := Lib.hid hS21
      clear hS21 hmk
      go_wp2_with fail
      go_roundw
      case rel => exact ⟨k + 1, _, by omega, by go_num, HS21⟩
      case measure => simp [intOf]; omega
    have hmb : (x.op != 53) = true := by simpa using hmk
    have HXt := HX6
    have HBt := HB6
    go_upto_region 24 with fail
    clear y0
    have hS18 := HS.out.ext HXt.out
    obtain ⟨iva, ivc, rfl⟩ := own_slice hS18.rIs
    obtain ⟨fl, hfl⟩ : ∃ n, (stripN c k).length = n := ⟨_, rfl⟩
    have hfle := stripN_len c k
    rw [hfl] at hS18 HS hfle
    obtain ⟨W19, hW19⟩ : ∃ W19, W6.alloc (.cells (encN (moveI c x)).toArray 82) = W19 := ⟨_, rfl⟩
    obtain ⟨b19, hb19⟩ : ∃ b19, W6.heap.size = b19 := ⟨_, rfl⟩
    have hX19 : Ex W6 W19 := by rw [← hW19]; exact (Keeps.refl _ _).alloc _
    have hS19 := hS18.ext hX19
    have hnew19 : ∀ (j : Nat) u, (encN (moveI c x))[j]? = some u → W19.cell? ((⟨b19, 0, none⟩ : Addr).add j) = some u := by
      rw [← hW19, ← hb19]; exact cells_new W6 _ _
    have o18 : W6.cell? ⟨b1 + 2, 4, none⟩ = some (.slice iva fl ivc) := (hS18.ko.cell 4).trans rfl
    have r0 : W6.cell? ⟨b6, 0, none⟩ = some (.int .i64 x.op) := (HBt.out.cell 0).trans rfl
    have r1 : W6.cell? ⟨b6, 1, none⟩ = some (.int .i64 x.a) := (HBt.out.cell 1).trans rfl
    have r2 : W6.cell? ⟨b6, 2, none⟩ = some (.int .i64 x.b) := (HBt.out.cell 2).trans rfl
    have hmx : (encN (moveI c x)).toArray = #[.int .i64 x.op, .int .i64 x.a, .int .i64 x.b] := by rw [HMx.out]; rfl
    rw [hmx] at hW19
    have HS19 := Lib.hid hS19; have HW19 := Lib.hid hW19; have Hb19 := Lib.hid hb19; have HNew19 := Lib.hid hnew19; have Hfl := Lib.hid hfl
    clear hS18 hX19 hS19 hnew19 hW19 hb19 hfl hmx
    go_wp2_with (at_builtin; refine (fun h => h trivial : (True → _) → _) ?_)
    intro _
    rw [HW19.out]
    try rw [Hb19.out]
    clear r0 r1 r2 o18
    obtain ⟨i0, hi, hz0, hz1, hz2⟩ := info_split info_stN
    have hrI := HS19.out.rIs
    rw [Hfl.out] at hrI
    refine wpList_append_fresh rfl _ _ 26 rfl w.heap.size 82 i0 _ 3 24 Tryz.underlying26 hi hz0 hz1 hz2 rfl (by decide) (.slice iva fl ivc) fl _ rfl hrI ⟨b19, 0, none⟩ 1 1 (encN (moveI c x)) rfl rfl HNew19.out (by intro u hu; simp only [encN, List.mem_cons, List.not_mem_nil, or_false] at hu; rcases hu with rfl | rfl | rfl <;> rfl) (by unfold maxLen; omega) (by omega) (by have := HS19.out.ex.size; omega) ?_
    intro v20 w20 g21 g22 _ _
    obtain ⟨iva4, ivc4, rfl⟩ := own_slice g21
    obtain ⟨hO20, hS21⟩ := HS19.out.growI (iv' := .slice iva4 (fl + 1) ivc4) g22 (by rw [Hfl.out]; exact g21) hw1
    have o20 : w20.cell? ⟨b1 + 2, 4, none⟩ = some (.slice iva fl ivc) := (hO20.cell 4).trans rfl
    have f20 : w20.frozen? ⟨b1 + 2, 4, none⟩ = false := hO20.frozen 4
    obtain ⟨W21, hW21⟩ : ∃ W21, w20.setCell ⟨b1 + 2, 4, none⟩ (.slice iva4 (fl + 1) ivc4) = W21 := ⟨_, rfl⟩
    rw [hW21, ← stripN_more Hx.out hmk] at hS21
    have HS21 := Lib.hid hS21; have HW21 := Lib.hid hW21
    clear g21 g22 hO20 hS21 hW21 hrI hi
    go_upto_region 19 with fail
    rw [HW21.out]
    clear o20 f20
    go_wp2_with fail
    go_roundw
    case rel => exact ⟨k + 1, _, by omega, by go_num, HS21⟩
    case measure => simp [intOf]; omega
  have hkn : k = c.instrs.length := by omega
  have HSt : Hid (RSt w b1 V1 (.slice ta c.texts.length tc) (.slice ra c.reals.length rc) dv lv iv ((xs.take xs.length).map (stripDV c)) ((c.labels.take c.labels.length).map (stripL c)) (stripN c c.instrs.length) wr) := Lib.hid (by rw [← hkn]; exact HS.out)
  clear HS
  obtain ⟨a0, c0, rfl⟩ := own_slice HSt.out.rDs
  obtain ⟨a1, c1, rfl⟩ := own_slice HSt.out.rLs
  obtain ⟨a4, c4, rfl⟩ := own_slice HSt.out.rIs
  obtain ⟨l0, hl0⟩ : ∃ n, ((xs.take xs.length).map (stripDV c)).length = n := ⟨_, rfl⟩
  obtain ⟨l1, hl1⟩ : ∃ n, ((c.labels.take c.labels.length).map (stripL c)).length = n := ⟨_, rfl⟩
  obtain ⟨l4, hl4⟩ : ∃ n, (stripN c c.instrs.length).length = n := ⟨_, rfl⟩
  have hS := HSt.out
  have hko := hS.ko
  rw [hl0, hl1, hl4] at hko
  have hrD0 := hS.rDs
  have hrL0 := hS.rLs
  have hrI0 := hS.rIs
  rw [hl0] at hrD0
  rw [hl1] at hrL0
  rw [hl4] at hrI0
  have o0 : wr.cell? ⟨b1 + 2, 0, none⟩ = some (.slice a0 l0 c0) := (hko.cell 0).trans rfl
  have o1 : wr.cell? ⟨b1 + 2, 1, none⟩ = some (.slice a1 l1 c1) := (hko.cell 1).trans rfl
  have o2 : wr.cell? ⟨b1 + 2, 2, none⟩ = some (.slice ta c.texts.length tc) := (hko.cell 2).trans rfl
  have o3 : wr.cell? ⟨b1 + 2, 3, none⟩ = some (.slice ra c.reals.length rc) := (hko.cell 3).trans rfl
  have o4 : wr.cell? ⟨b1 + 2, 4, none⟩ = some (.slice a4 l4 c4) := (hko.cell 4).trans rfl
  have q0 : wr.cell? ⟨b1 + 1, 0, none⟩ = some (.slice none 0 0) := (hS.k2.cell 0).trans rfl
  have q1 : wr.cell? ⟨b1 + 1, 1, none⟩ = some (.slice none 0 0) := (hS.k2.cell 1).trans rfl
  have q2 : wr.cell? ⟨b1 + 1, 2, none⟩ = some (.slice none 0 0) := (hS.k2.cell 2).trans rfl
  have q3 : wr.cell? ⟨b1 + 1, 3, none⟩ = some (.slice none 0 0) := (hS.k2.cell 3).trans rfl
  have q4 : wr.cell? ⟨b1 + 1, 4, none⟩ = some (.slice none 0 0) := (hS.k2.cell 4).trans rfl
  have q5 : wr.cell? ⟨b1 + 1, 5, none⟩ = some (.int .i64 0) := (hS.k2.cell 5).trans rfl
  have f0 : ∀ j, wr.frozen? ⟨b1 + 1, j, none⟩ = false := fun j => hS.k2.frozen _
  have HK2 := Lib.hid hS.k2; have HEx := Lib.hid hS.ex; have HRD := Lib.hid hrD0; have HRL := Lib.hid hrL0; have HRI := Lib.hid hrI0; have Hl0 := Lib.hid hl0; have Hl1 := Lib.hid hl1; have Hl4 := Lib.hid hl4
  clear hS hko HSt hl0 hl1 hl4 hrD0 hrL0 hrI0
  go_wp2_with fail
  have hBr := ((((((HK2.out.set 0 (.slice a0 l0 c0)).set 1 (.slice a1 l1 c1)).set 2 (.slice ta c.texts.length tc)).set 3 (.slice ra c.reals.length rc)).set 4 (.slice a4 l4 c4)).set 5 (.int .i64 0))
  refine bodyPost_ret (results_cell_row rfl _ _ (b1 + 1) 36 _ (0, 0) _ rfl hBr Tryz.underlying36 rfl (by kernel_rfl)) rfl ?_
  rw [← HM.out]
  unfold RStripR
  rw [if_neg Hne.out]
  have k : ∀ {V : World}, Ex w V → ∀ (j : Nat) (v : Value), Ex w (V.setCell ⟨b1 + 1, j, none⟩ v) := fun hV j v => hV.setCell (.inr (by show w.heap.size ≤ b1 + 1; omega)) v
  have hEx := k (k (k (k (k (k HEx.out 0 (.slice a0 l0 c0)) 1 (.slice a1 l1 c1)) 2 (.slice ta c.texts.length tc)) 3 (.slice ra c.reals.length rc)) 4 (.slice a4 l4 c4)) 5 (.int .i64 0)
  have hrD := six_row HK2.out HRD.out (by decide) (.slice a0 l0 c0) (.slice a1 l1 c1) (.slice ta c.texts.length tc) (.slice ra c.reals.length rc) (.slice a4 l4 c4) (.int .i64 0)
  have hrL := six_row HK2.out HRL.out (by decide) (.slice a0 l0 c0) (.slice a1 l1 c1) (.slice ta c.texts.length tc) (.slice ra c.reals.length rc) (.slice a4 l4 c4) (.int .i64 0)
  have hrI := six_row HK2.out HRI.out (by decide) (.slice a0 l0 c0) (.slice a1 l1 c1) (.slice ta c.texts.length tc) (.slice ra c.reals.length rc) (.slice a4 l4 c4) (.int .i64 0)
  refine ⟨_, _, _, _, _, (xs.take xs.length).map (stripDV c), rfl, ?_, hEx⟩
  exact
    { ds := own_rd encD_len (by rw [Hl0.out]; exact hrD)
      de := fun x hx => by
        obtain ⟨y, hy, rfl⟩ := List.mem_map.1 hx
        rw [List.take_length] at hy
        have := (H.out.de y hy).ext hEx
        exact ⟨this.chain, this.up, this.virts⟩
      eq := by
        rw [List.take_length, List.map_map]
        show xs.map _ = c.descs.map (stripD c)
        rw [← H.out.eq, List.map_map]; rfl
      ls := by
        have h9 : RdL encL _ (.slice a1 l1 c1) ((c.labels.take c.labels.length).map (stripL c)) := own_rd encL_len (by rw [Hl1.out]; exact hrL)
        rw [List.take_length] at h9
        exact h9
      ts := H.out.ts.ext hEx
      rs := H.out.rs.ext hEx
      is := by
        have h9 : RdL encN _ (.slice a4 l4 c4) (stripN c c.instrs.length) := own_rd encN_len (by rw [Hl4.out]; exact hrI)
        unfold stripN at h9
        rw [List.take_length] at h9
        exact h9 }
end Go.Proofs.YtlaepkmnbbgbcaaGreatDoor
