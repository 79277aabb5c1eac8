/- Block, Load, Blocks of the reference. -/
import Derived.Test.YtikigppfnhilhaaGPD35
/- Block, Load, Blocks of the reference. -/
namespace Go.Proofs.Ytikigppfnhilhaa
open Go.RowKit Go.Instr
set_option linter.unusedVariables false
set_option linter.unusedSimpArgs false
attribute [local go_sem] Oper.semAt_some

/-- A reference block's cells, in its row. -/
theorem rowR_at {w : World} {base : Nat} {v : Value} {l : List RB} (h : rowR w base v l) {k : Nat} {y : RB} (hy : l[k]? = some y) :
    ∃ g c, v = .slice (some ⟨g, 0, none⟩) l.length c ∧ w.cell? ⟨g, k * 3, none⟩ = some (.int .i64 y.b.at_) ∧ w.cell? ⟨g, k * 3 + 1, none⟩ = some (.int .i64 y.b.kind) ∧ w.cell? ⟨g, k * 3 + 2, none⟩ = some y.sl := by
  have hc := fun g hg => h.cells (g := g) hg
  rcases h.2 with ⟨hv, hl⟩ | ⟨g, cap, cur, rfl, _⟩
  · rw [List.eq_nil_of_length_eq_zero hl] at hy; simp at hy
  · refine ⟨g, cap, rfl, ?_⟩
    have hbs : (l.map RB.b)[k]? = some y.b := by rw [List.getElem?_map, hy]; rfl
    have hu : (l.map RB.sl)[k]? = some y.sl := by rw [List.getElem?_map, hy]; rfl
    have hg := fun j hj => bksCells_get _ _ k y.b _ hbs hu j hj
    have ha : ∀ i, (⟨g, 0, none⟩ : Addr).add i = ⟨g, i, none⟩ := fun i => by unfold Addr.add; split <;> simp_all
    have h0 := hc g rfl _ _ ((hg 0 (by omega)).trans rfl)
    have h1 := hc g rfl _ _ ((hg 1 (by omega)).trans rfl)
    have h2 := hc g rfl _ _ ((hg 2 (by omega)).trans rfl)
    rw [ha] at h0 h1 h2
    exact ⟨h0, h1, h2⟩
theorem Rat_to {w : World} {v : Value} {bs : List Bk} (h : RdB w v bs) (hl : bs.length ≤ 1000000) (a : Int) : Calls Try.prog 80 #[v, .int .i64 a] w fun e w' => e = .returned (.int .i64 (atI bs a)) ∧ w = w' :=
  (Rat_same h hl a).mono fun e w' ⟨h1, h2⟩ => ⟨h1, h2.symm⟩
theorem Rused_to {w : World} {v : Value} {bs : List Bk} (h : RdB w v bs) (hl : bs.length ≤ 1000000) (hu : bused bs ≤ 1000000) : Calls Try.prog 73 #[v] w fun e w' => e = .returned (.int .i64 (bused bs)) ∧ w = w' :=
  (Rused_same h hl hu).mono fun e w' ⟨h1, h2⟩ => ⟨h1, h2.symm⟩
def blkV : Option RB → Value
  | none => .agg #[.int .i64 0, .int .i64 0, .slice none 0 0]
  | some y => .agg #[.int .i64 y.b.at_, .int .i64 y.b.kind, y.sl]
def blkE : Option RB → Int
  | none => 5
  | some _ => 0
def RBlockR (w : World) (r : RH) (a : Int) (e : Ending) (w' : World) : Prop := e = .returned (.tuple #[blkV (r.find a), .int .i64 (blkE (r.find a))]) ∧ Ext w w'
set_option maxRecDepth 100000 in
set_option maxHeartbeats 4000000 in
theorem RBlock_any {w : World} {base : Nat} {r : RH} (h : RRep w base r) (a : Int) : Calls Try.prog 55 #[.pointer (some ⟨r.rp, 0, none⟩), .int .i64 a] w (RBlockR w r a) := by
  generalize hM : RBlockR w r a = M
  have HM := Lib.hid hM
  have H := Lib.hid h
  have hly : r.log.yb.length ≤ 1000000 := Nat.le_trans h.ylen (by omega)
  have hlo : r.log.ob.length ≤ 1000000 := Nat.le_trans h.olen (by omega)
  clear hM
  go_enter Try.func55, Try.ntmps55
  have c2 : (w.alloc (.cells #[.int .i64 0, .int .i64 0, .slice none 0 0] 49)).cell? ⟨r.rp, 0 + 2, none⟩ = some r.ya := cell_allocO h.c2 _
  obtain ⟨bx, hbx⟩ : ∃ bx, w.heap.size = bx := ⟨_, rfl⟩
  go_wp2_with fail
  obtain ⟨w1, hw1⟩ : ∃ w1, w.alloc (.cells #[.int .i64 0, .int .i64 0, .slice none 0 0] 49) = w1 := ⟨_, rfl⟩
  have HX1 : Hid (Ext w w1) := Lib.hid (by rw [← hw1]; exact (Ext.refl w).alloc _)
  have HB1 : Hid (Blk w1 bx #[.int .i64 0, .int .i64 0, .slice none 0 0] 49) := Lib.hid (by rw [← hw1, ← hbx]; exact Blk.new w _ _)
  have Hbx := Lib.hid hbx
  rw [hw1]
  clear hw1 c2
  have c2 : w1.cell? ⟨r.rp, 0 + 2, none⟩ = some r.ya := (H.out.ext HX1.out).c2
  have c3 : w1.cell? ⟨r.rp, 0 + 3, none⟩ = some r.oa := (H.out.ext HX1.out).c3
  refine (Rat_to (H.out.ext HX1.out).rdy hly a).mono ?_
  rintro e w2 ⟨rfl, rfl⟩
  rcases atI_cases r.yb a with ⟨k, y, hk, hf, hat⟩ | ⟨hf, hat⟩
  · have HF : Hid (r.find a = some y) := Lib.hid (by unfold RH.find RH.all; rw [List.find?_append, hf]; rfl)
    have hat' : atI r.log.yb a = k := hat
    obtain ⟨g, c, hv, d0, d1, d2⟩ := rowR_at (H.out.ext HX1.out).yrow hk
    have hkl : k < r.yb.length := (List.getElem?_eq_some_iff.1 hk).1
    rw [hv] at c2
    rw [hat']
    obtain ⟨A, hA⟩ : ∃ A : Nat, k * 3 = A := ⟨_, rfl⟩
    rw [hA] at d0 d1 d2
    have z0 : w1.cell? ⟨bx, 0, none⟩ = some (.int .i64 0) := (HB1.out.cell 0).trans rfl
    have z1 : w1.cell? ⟨bx, 0 + 1, none⟩ = some (.int .i64 0) := (HB1.out.cell 1).trans rfl
    have z2 : w1.cell? ⟨bx, 0 + 2, none⟩ = some (.slice none 0 0) := (HB1.out.cell 2).trans rfl
    have f0 := HB1.out.frozen 0
    have f1 := HB1.out.frozen 1
    have f2 := HB1.out.frozen 2
    have HB3 := Lib.hid (((HB1.out.set 0 (.int .i64 y.b.at_)).set 1 (.int .i64 y.b.kind)).set 2 y.sl)
    unfold RB.sl at HB3 d2
    clear hk hf hat hat' hv
    go_wp2_with fail
    refine bodyPost_ret ((results_cell_tmp rfl _ _ _).trans (by
      show ((asAddr (Value.pointer (some ⟨bx, 0, none⟩))).run Try.prog _).andThen _ = _
      rw [show (asAddr (Value.pointer (some ⟨bx, 0, none⟩))) = (pure ⟨bx, 0, none⟩ : Sem Addr) from rfl, Sem.run_pure, Result.andThen_ok, run_loadVar_row _ bx 49 49 _ (0, 0) _ HB3.out Try.underlying49 rfl (by kernel_rfl), Result.andThen_ok])) rfl ?_
    rw [← HM.out]
    exact ⟨by rw [HF.out]; rfl, Keeps.setCell (Keeps.setCell (Keeps.setCell HX1.out (.inr (Nat.le_of_eq Hbx.out)) _) (.inr (Nat.le_of_eq Hbx.out)) _) (.inr (Nat.le_of_eq Hbx.out)) _⟩
  · have Hfy := Lib.hid hf
    have hat' : atI r.log.yb a = -1 := hat
    rw [hat']
    clear hf hat hat'
    go_wp2_with fail
    refine (Rat_to (H.out.ext HX1.out).rdo hlo a).mono ?_
    rintro e w2 ⟨rfl, rfl⟩
    rcases atI_cases r.ob a with ⟨k, y, hk, hf, hat⟩ | ⟨hf, hat⟩
    · have HF : Hid (r.find a = some y) := Lib.hid (by unfold RH.find RH.all; rw [List.find?_append, Hfy.out, hf]; rfl)
      have hat' : atI r.log.ob a = k := hat
      obtain ⟨g, c, hv, d0, d1, d2⟩ := rowR_at (H.out.ext HX1.out).orow hk
      have hkl : k < r.ob.length := (List.getElem?_eq_some_iff.1 hk).1
      rw [hv] at c3
      rw [hat']
      obtain ⟨A, hA⟩ : ∃ A : Nat, k * 3 = A := ⟨_, rfl⟩
      rw [hA] at d0 d1 d2
      have z0 : w1.cell? ⟨bx, 0, none⟩ = some (.int .i64 0) := (HB1.out.cell 0).trans rfl
      have z1 : w1.cell? ⟨bx, 0 + 1, none⟩ = some (.int .i64 0) := (HB1.out.cell 1).trans rfl
      have z2 : w1.cell? ⟨bx, 0 + 2, none⟩ = some (.slice none 0 0) := (HB1.out.cell 2).trans rfl
      have f0 := HB1.out.frozen 0
      have f1 := HB1.out.frozen 1
      have f2 := HB1.out.frozen 2
      have HB3 := Lib.hid (((HB1.out.set 0 (.int .i64 y.b.at_)).set 1 (.int .i64 y.b.kind)).set 2 y.sl)
      unfold RB.sl at HB3 d2
      clear hk hf hat hat' hv
      go_wp2_with fail
      refine bodyPost_ret ((results_cell_tmp rfl _ _ _).trans (by
        show ((asAddr (Value.pointer (some ⟨bx, 0, none⟩))).run Try.prog _).andThen _ = _
        rw [show (asAddr (Value.pointer (some ⟨bx, 0, none⟩))) = (pure ⟨bx, 0, none⟩ : Sem Addr) from rfl, Sem.run_pure, Result.andThen_ok, run_loadVar_row _ bx 49 49 _ (0, 0) _ HB3.out Try.underlying49 rfl (by kernel_rfl), Result.andThen_ok])) rfl ?_
      rw [← HM.out]
      exact ⟨by rw [HF.out]; rfl, Keeps.setCell (Keeps.setCell (Keeps.setCell HX1.out (.inr (Nat.le_of_eq Hbx.out)) _) (.inr (Nat.le_of_eq Hbx.out)) _) (.inr (Nat.le_of_eq Hbx.out)) _⟩
    · have HF : Hid (r.find a = none) := Lib.hid (by unfold RH.find RH.all; rw [List.find?_append, Hfy.out, hf]; rfl)
      have hat' : atI r.log.ob a = -1 := hat
      rw [hat']
      have z0 : w1.cell? ⟨bx, 0, none⟩ = some (.int .i64 0) := (HB1.out.cell 0).trans rfl
      have z1 : w1.cell? ⟨bx, 0 + 1, none⟩ = some (.int .i64 0) := (HB1.out.cell 1).trans rfl
      have z2 : w1.cell? ⟨bx, 0 + 2, none⟩ = some (.slice none 0 0) := (HB1.out.cell 2).trans rfl
      have f0 := HB1.out.frozen 0
      have f1 := HB1.out.frozen 1
      have f2 := HB1.out.frozen 2
      have HB3 := Lib.hid (((HB1.out.set 0 (.int .i64 0)).set 1 (.int .i64 0)).set 2 (.slice none 0 0))
      clear hf hat hat'
      go_wp2_with fail
      refine bodyPost_ret ((results_cell_tmp rfl _ _ _).trans (by
        show ((asAddr (Value.pointer (some ⟨bx, 0, none⟩))).run Try.prog _).andThen _ = _
        rw [show (asAddr (Value.pointer (some ⟨bx, 0, none⟩))) = (pure ⟨bx, 0, none⟩ : Sem Addr) from rfl, Sem.run_pure, Result.andThen_ok, run_loadVar_row _ bx 49 49 _ (0, 0) _ HB3.out Try.underlying49 rfl (by kernel_rfl), Result.andThen_ok])) rfl ?_
      rw [← HM.out]
      exact ⟨by rw [HF.out]; rfl, Keeps.setCell (Keeps.setCell (Keeps.setCell HX1.out (.inr (Nat.le_of_eq Hbx.out)) _) (.inr (Nat.le_of_eq Hbx.out)) _) (.inr (Nat.le_of_eq Hbx.out)) _⟩

/-! ### Rows appended -/
theorem bksOne (l : List RB) : ∀ u ∈ bksCells (l.map RB.b) (l.map RB.sl), u.oneCell' = true := by
  induction l with
  | nil => simp [bksCells]
  | cons y l ih =>
    intro u hu
    simp only [List.map_cons, bksCells, List.mem_append] at hu
    rcases hu with hu | hu
    · simp [bkCells, RB.sl] at hu
      rcases hu with rfl | rfl | rfl <;> rfl
    · exact ih u hu
theorem bksApp : ∀ (a b : List RB), bksCells ((a ++ b).map RB.b) ((a ++ b).map RB.sl) = bksCells (a.map RB.b) (a.map RB.sl) ++ bksCells (b.map RB.b) (b.map RB.sl)
  | [], b => by simp [bksCells]
  | x :: a, b => by
    have := bksApp a b
    simp only [List.cons_append, List.map_cons, bksCells, List.append_assoc]
    rw [this]
theorem bksLen (l : List RB) : (bksCells (l.map RB.b) (l.map RB.sl)).length = l.length * 3 := by
  induction l with
  | nil => rfl
  | cons y l ih => simp only [List.map_cons, bksCells, List.length_append, ih, List.length_cons]; simp [bkCells]; omega
theorem rowR_nil (w : World) (base : Nat) : rowR w base (.slice none 0 0) [] := World.ownsRow_nil _ _ _ _
theorem grownBy_refl (w : World) (r : Option Nat) : w.grownBy w r := ⟨rfl, rfl, rfl, Nat.le_refl _, fun _ _ _ => rfl⟩
theorem wpList_append_R {w : World} {ops : Array Oper} {rest : List Oper} {o : Oper} {a : Act} {Q : Exit → Act → World → Prop} (hgd : o.guard = none) (s x : Operand)
    (ho : o.op = .call { callee := .builtin .append, args := #[s, x], argTypes := #[28, 28] })
    (base : Nat) (v : Value) (l1 : List RB) (hs : a.eval s = v) (hown : rowR w base v l1) (base2 : Nat) (u : Value) (l2 : List RB) (hx : a.eval x = u) (hrow : rowR w base2 u l2)
    (hl : l1.length + l2.length ≤ 1000000) (hbase : base ≤ w.heap.size)
    (h : ∀ v' w', rowR w' base v' (l1 ++ l2) → w.grownBy w' v.ownBlock → wpList Try.prog ops Q rest (a.put o.dst v') w') : wpList Try.prog ops Q (o :: rest) a w := by
  obtain ⟨i0, hi, hz0, hz1, hz2⟩ := info_parts info_Block
  rcases hrow.2 with ⟨rfl, hz⟩ | ⟨g, cap, cur, rfl, _⟩
  · have : l2 = [] := List.eq_nil_of_length_eq_zero hz
    subst this
    refine wpList_append_own_none hgd s x 28 ho base 49 i0 3 Try.underlying28 hi v _ _ hs hown hx ?_
    exact h v w (by rw [List.append_nil]; exact hown) (grownBy_refl _ _)
  · refine wpList_append_fresh hgd s x 28 ho base 49 i0 _ 3 40 Try.underlying28 hi hz0 hz1 hz2 rfl (by decide) v l1.length _ hs hown ⟨g, 0, none⟩ l2.length _ (bksCells (l2.map RB.b) (l2.map RB.sl)) hx (bksLen l2) (fun j z hz => hrow.cells (g := g) rfl j z hz) (bksOne l2) (by unfold maxLen; omega) (by omega) hbase ?_
    intro v' w' h1 h2 _ _
    refine h v' w' ?_ h2
    unfold rowR
    rw [bksApp, List.length_append]; exact h1
theorem rowR_ext {w w' : World} {base : Nat} {v : Value} {l : List RB} (h : rowR w base v l) (hx : Ext w w') : rowR w' base v l := own_ext h hx

/-! ### Blocks -/
def RBlocksR (w : World) (r : RH) (e : Ending) (w' : World) : Prop := ∃ v', e = .returned v' ∧ rowR w' w.heap.size v' r.all ∧ Ext w w'
set_option maxRecDepth 100000 in
set_option maxHeartbeats 4000000 in
theorem RBlocks_any {w : World} {base : Nat} {r : RH} (h : RRep w base r) : Calls Try.prog 31 #[.pointer (some ⟨r.rp, 0, none⟩)] w (RBlocksR w r) := by
  generalize hM : RBlocksR w r = M
  have HM := Lib.hid hM
  have H := Lib.hid h
  have hly : r.yb.length ≤ 1000 := by have := h.ylen; simpa [RH.log] using this
  have hlo : r.ob.length ≤ 1000 := by have := h.olen; simpa [RH.log] using this
  have c2 : w.cell? ⟨r.rp, 0 + 2, none⟩ = some r.ya := h.c2
  clear hM h
  go_enter Try.func31, Try.ntmps31
  go_wp2_with (at_builtin; refine (fun h => h trivial : (True → _) → _) ?_)
  intro _
  refine wpList_append_R rfl _ _ rfl w.heap.size (.slice none 0 0) [] rfl (rowR_nil _ _) _ _ r.yb rfl H.out.yrow (by simp; omega) (Nat.le_refl _) ?_
  intro v1 w1 h1 hg1
  have HX1 : Hid (Ext w w1) := Lib.hid ((Ext.refl w).grown hg1 fun j e => by simp [Value.ownBlock] at e)
  have Ho1 : Hid (rowR w1 w.heap.size v1 r.yb) := Lib.hid (by simpa using h1)
  have c3 : w1.cell? ⟨r.rp, 0 + 3, none⟩ = some r.oa := (H.out.ext HX1.out).c3
  clear h1 hg1 c2
  go_wp2_with (at_builtin; refine (fun h => h trivial : (True → _) → _) ?_)
  intro _
  refine wpList_append_R rfl _ _ rfl w.heap.size v1 r.yb rfl Ho1.out _ _ r.ob rfl (H.out.ext HX1.out).orow (by omega) HX1.out.size ?_
  intro v2 w2 h2 hg2
  have HX2 : Hid (Ext w w2) := Lib.hid (HX1.out.grown hg2 fun j e => .inr (Ho1.out.lt j e).1)
  have Ho2 := Lib.hid h2
  clear h2 hg2 c3
  go_wp2_with fail
  rw [← HM.out]
  exact ⟨_, rfl, Ho2.out, HX2.out⟩

/-! ### Load -/
def RLoadR (w : World) (r : RH) (a i : Int) (e : Ending) (w' : World) : Prop := e = .returned (.tuple #[(loadL (r.log.find a) i).1.val, .int .i64 (loadL (r.log.find a) i).2]) ∧ Ext w w'
set_option maxRecDepth 100000 in
set_option maxHeartbeats 8000000 in
theorem RLoad_any {w : World} {base : Nat} {r : RH} (h : RRep w base r) (a i : Int) : Calls Try.prog 53 #[.pointer (some ⟨r.rp, 0, none⟩), .int .i64 a, .int .i64 i] w (RLoadR w r a i) := by
  generalize hM : RLoadR w r a i = M
  have HM := Lib.hid hM
  have H := Lib.hid h
  clear hM h
  go_enter Try.func53, Try.ntmps53
  obtain ⟨bx, hbx⟩ : ∃ bx, w.heap.size = bx := ⟨_, rfl⟩
  go_wp2_with fail
  obtain ⟨w1, hw1⟩ : ∃ w1, w.alloc (.cells #[.int .i64 0, .int .i64 0, .int .i64 0, .string ⟨#[]⟩, .int .i64 0, .int .i64 0] 33) = w1 := ⟨_, rfl⟩
  have HX1 : Hid (Ext w w1) := Lib.hid (by rw [← hw1]; exact (Ext.refl w).alloc _)
  have HB1 : Hid (Blk w1 bx #[.int .i64 0, .int .i64 0, .int .i64 0, .string ⟨#[]⟩, .int .i64 0, .int .i64 0] 33) := Lib.hid (by rw [← hw1, ← hbx]; exact Blk.new w _ _)
  have Hbx := Lib.hid hbx
  rw [hw1]
  clear hw1 hbx
  refine (RBlock_any (H.out.ext HX1.out) a).mono ?_
  rintro e w1b ⟨rfl, hx1b⟩
  have Hfl := Lib.hid (RH.find_log r a)
  have HXb := Lib.hid hx1b
  clear hx1b
  cases hf : r.find a with
  | none =>
    rw [hf] at Hfl
    have Hld : Hid (loadL (r.log.find a) i = (wd0, 5)) := Lib.hid (by rw [Hfl.out]; rfl)
    unfold blkV blkE
    obtain ⟨WW, hWW⟩ : ∃ WW, w1b.alloc (.cells #[.int .i64 0, .int .i64 0, .slice none 0 0] 49) = WW := ⟨_, rfl⟩
    have HXW : Hid (Ext w1b WW) := Lib.hid (by rw [← hWW]; exact (Ext.refl _).alloc _)
    have HB2 := Lib.hid (HXW.out.blk (HXb.out.blk HB1.out id) id)
    have z0 : WW.cell? ⟨bx, 0, none⟩ = some (.int .i64 0) := (HB2.out.cell 0).trans rfl
    have z1 : WW.cell? ⟨bx, 0 + 1, none⟩ = some (.int .i64 0) := (HB2.out.cell 1).trans rfl
    have z2 : WW.cell? ⟨bx, 0 + 2, none⟩ = some (.int .i64 0) := (HB2.out.cell 2).trans rfl
    have z3 : WW.cell? ⟨bx, 0 + 3, none⟩ = some (.string ⟨#[]⟩) := (HB2.out.cell 3).trans rfl
    have z4 : WW.cell? ⟨bx, 0 + 4, none⟩ = some (.int .i64 0) := (HB2.out.cell 4).trans rfl
    have z5 : WW.cell? ⟨bx, 0 + 5, none⟩ = some (.int .i64 0) := (HB2.out.cell 5).trans rfl
    have f0 := HB2.out.frozen 0
    have f1 := HB2.out.frozen 1
    have f2 := HB2.out.frozen 2
    have f3 := HB2.out.frozen 3
    have f4 := HB2.out.frozen 4
    have f5 := HB2.out.frozen 5
    clear hf
    subst hWW
    go_wp2_with fail
    obtain ⟨hb7, hk7⟩ := set6 HB2.out (.int .i64 0) (.int .i64 0) (.int .i64 0) (.string ⟨#[]⟩) (.int .i64 0) (.int .i64 0)
    refine bodyPost_ret ((results_cell_tmp rfl _ _ _).trans (by
      show ((asAddr (Value.pointer (some ⟨bx, 0, none⟩))).run Try.prog _).andThen _ = _
      rw [show (asAddr (Value.pointer (some ⟨bx, 0, none⟩))) = (pure ⟨bx, 0, none⟩ : Sem Addr) from rfl, Sem.run_pure, Result.andThen_ok, run_loadVar_row _ bx 33 33 _ (0, 0) _ hb7 Try.underlying33 rfl (by kernel_rfl), Result.andThen_ok])) rfl ?_
    rw [← HM.out]
    exact ⟨by rw [Hld.out]; rfl, ((HX1.out.trans HXb.out).trans HXW.out).trans' hk7 fun k hk2 e => by have := Hbx.out; omega⟩
  | some y =>
    rw [hf] at Hfl
    have hym := (RH.find_mem hf).1
    have hlen : y.b.ws.length ≤ 1000 := H.out.len (by rw [RH.log_all]; exact List.mem_map_of_mem hym)
    have Hyb : Hid (Blk w1b y.arr (flat y.b.ws) 33) := Lib.hid ((H.out.ext (HX1.out.trans HXb.out)).wo y hym)
    unfold blkV blkE RB.sl
    obtain ⟨WW, hWW⟩ : ∃ WW, w1b.alloc (.cells #[.int .i64 y.b.at_, .int .i64 y.b.kind, .slice (some ⟨y.arr, 0, none⟩) y.b.ws.length y.b.ws.length] 49) = WW := ⟨_, rfl⟩
    have HXW : Hid (Ext w1b WW) := Lib.hid (by rw [← hWW]; exact (Ext.refl _).alloc _)
    have HB2 := Lib.hid (HXW.out.blk (HXb.out.blk HB1.out id) id)
    have z0 : WW.cell? ⟨bx, 0, none⟩ = some (.int .i64 0) := (HB2.out.cell 0).trans rfl
    have z1 : WW.cell? ⟨bx, 0 + 1, none⟩ = some (.int .i64 0) := (HB2.out.cell 1).trans rfl
    have z2 : WW.cell? ⟨bx, 0 + 2, none⟩ = some (.int .i64 0) := (HB2.out.cell 2).trans rfl
    have z3 : WW.cell? ⟨bx, 0 + 3, none⟩ = some (.string ⟨#[]⟩) := (HB2.out.cell 3).trans rfl
    have z4 : WW.cell? ⟨bx, 0 + 4, none⟩ = some (.int .i64 0) := (HB2.out.cell 4).trans rfl
    have z5 : WW.cell? ⟨bx, 0 + 5, none⟩ = some (.int .i64 0) := (HB2.out.cell 5).trans rfl
    have f0 := HB2.out.frozen 0
    have f1 := HB2.out.frozen 1
    have f2 := HB2.out.frozen 2
    have f3 := HB2.out.frozen 3
    have f4 := HB2.out.frozen 4
    have f5 := HB2.out.frozen 5
    by_cases hi : 0 ≤ i ∧ i < y.b.ws.length
    · obtain ⟨n, rfl⟩ : ∃ n : Nat, i = n := ⟨i.toNat, by omega⟩
      have hn : n < y.b.ws.length := by omega
      obtain ⟨u, hu⟩ : ∃ u, y.b.ws[n]? = some u := ⟨_, List.getElem?_eq_getElem hn⟩
      have Hld : Hid (loadL (r.log.find a) n = (u, 0)) := Lib.hid (by
        rw [Hfl.out]; unfold loadL; simp only [Option.map_some]
        rw [if_pos hi]
        simp [List.getD, hu])
      have hcc : ∀ j z, j < 6 → u.cells[j]? = some z → WW.cell? ⟨y.arr, n * 6 + j, none⟩ = some z := fun j z hj hz =>
        Ext.cell HXW.out (((Hyb.out.cell _).trans (flat_get _ n u hu j hj)).trans hz)
      have c0 : WW.cell? ⟨y.arr, n * 6, none⟩ = some (.int .i64 u.tag) := hcc 0 _ (by omega) rfl
      have c1 : WW.cell? ⟨y.arr, n * 6 + 1, none⟩ = some (.int .i64 u.a) := hcc 1 _ (by omega) rfl
      have c2 : WW.cell? ⟨y.arr, n * 6 + 2, none⟩ = some (.int .i64 u.b) := hcc 2 _ (by omega) rfl
      have c3 : WW.cell? ⟨y.arr, n * 6 + 3, none⟩ = some (.string u.text) := hcc 3 _ (by omega) rfl
      have c4 : WW.cell? ⟨y.arr, n * 6 + 4, none⟩ = some (.int .i64 u.man) := hcc 4 _ (by omega) rfl
      have c5 : WW.cell? ⟨y.arr, n * 6 + 5, none⟩ = some (.int .i64 u.exp) := hcc 5 _ (by omega) rfl
      clear hcc
      clear hf hi hu
      subst hWW
      go_wp2_with fail
      obtain ⟨hb7, hk7⟩ := set6 HB2.out (.int .i64 u.tag) (.int .i64 u.a) (.int .i64 u.b) (.string u.text) (.int .i64 u.man) (.int .i64 u.exp)
      refine bodyPost_ret ((results_cell_tmp rfl _ _ _).trans (by
        show ((asAddr (Value.pointer (some ⟨bx, 0, none⟩))).run Try.prog _).andThen _ = _
        rw [show (asAddr (Value.pointer (some ⟨bx, 0, none⟩))) = (pure ⟨bx, 0, none⟩ : Sem Addr) from rfl, Sem.run_pure, Result.andThen_ok, run_loadVar_row _ bx 33 33 _ (0, 0) _ hb7 Try.underlying33 rfl (by kernel_rfl), Result.andThen_ok])) rfl ?_
      rw [← HM.out]
      exact ⟨by rw [Hld.out]; rfl, ((HX1.out.trans HXb.out).trans HXW.out).trans' hk7 fun k hk2 e => by have := Hbx.out; omega⟩
    · have Hld : Hid (loadL (r.log.find a) i = (wd0, 3)) := Lib.hid (by
        rw [Hfl.out]; unfold loadL; simp only [Option.map_some]
        rw [if_neg hi])
      have hi2 : i < 0 ∨ (¬ i < 0 ∧ (y.b.ws.length : Int) ≤ i) := by omega
      clear hf hi
      subst hWW
      rcases hi2 with hi2 | ⟨hi2, hi3⟩
      · go_wp2_with fail
        obtain ⟨hb7, hk7⟩ := set6 HB2.out (.int .i64 0) (.int .i64 0) (.int .i64 0) (.string ⟨#[]⟩) (.int .i64 0) (.int .i64 0)
        refine bodyPost_ret ((results_cell_tmp rfl _ _ _).trans (by
          show ((asAddr (Value.pointer (some ⟨bx, 0, none⟩))).run Try.prog _).andThen _ = _
          rw [show (asAddr (Value.pointer (some ⟨bx, 0, none⟩))) = (pure ⟨bx, 0, none⟩ : Sem Addr) from rfl, Sem.run_pure, Result.andThen_ok, run_loadVar_row _ bx 33 33 _ (0, 0) _ hb7 Try.underlying33 rfl (by kernel_rfl), Result.andThen_ok])) rfl ?_
        rw [← HM.out]
        exact ⟨by rw [Hld.out]; rfl, ((HX1.out.trans HXb.out).trans HXW.out).trans' hk7 fun k hk2 e => by have := Hbx.out; omega⟩
      · go_wp2_with fail
        obtain ⟨hb7, hk7⟩ := set6 HB2.out (.int .i64 0) (.int .i64 0) (.int .i64 0) (.string ⟨#[]⟩) (.int .i64 0) (.int .i64 0)
        refine bodyPost_ret ((results_cell_tmp rfl _ _ _).trans (by
          show ((asAddr (Value.pointer (some ⟨bx, 0, none⟩))).run Try.prog _).andThen _ = _
          rw [show (asAddr (Value.pointer (some ⟨bx, 0, none⟩))) = (pure ⟨bx, 0, none⟩ : Sem Addr) from rfl, Sem.run_pure, Result.andThen_ok, run_loadVar_row _ bx 33 33 _ (0, 0) _ hb7 Try.underlying33 rfl (by kernel_rfl), Result.andThen_ok])) rfl ?_
        rw [← HM.out]
        exact ⟨by rw [Hld.out]; rfl, ((HX1.out.trans HXb.out).trans HXW.out).trans' hk7 fun k hk2 e => by have := Hbx.out; omega⟩
end Go.Proofs.Ytikigppfnhilhaa
