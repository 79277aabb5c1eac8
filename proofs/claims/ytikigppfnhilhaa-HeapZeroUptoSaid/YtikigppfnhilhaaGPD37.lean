/- Store of the reference. Store of the reference: the walk. -/
import Derived.Test.YtikigppfnhilhaaGPD36
import Derived.Deep.Cut
/- Store of the reference. -/
namespace Go.Proofs.Ytikigppfnhilhaa
open Go.RowKit Go.Instr
set_option linter.unusedVariables false
set_option linter.unusedSimpArgs false
attribute [local go_sem] Oper.semAt_some

/-- The heap h without places is what the reference's heap r says. -/
structure Cpl (h : LH) (r : RH) : Prop where
  Y : h.Y = r.Y
  O : h.O = r.O
  yb : h.yb = r.yb.map RB.b
  ob : h.ob = r.ob.map RB.b
  R : ∀ k, k ∈ h.R ↔ k ∈ r.M
theorem Cpl.all {h : LH} {r : RH} (c : Cpl h r) : h.all = r.log.all := by unfold LH.all; rw [c.yb, c.ob]; rfl
theorem Cpl.find {h : LH} {r : RH} (c : Cpl h r) (k : Int) : h.find k = r.log.find k := by unfold LH.find; rw [c.all]
theorem Cpl.bad {h : LH} {r : RH} (c : Cpl h r) : h.bad = r.log.bad := by funext u; unfold LH.bad; rw [c.find]
/-- The reference's heap r of w has become one that is h'. -/
def RStep (w : World) (base : Nat) (r : RH) (h' : LH) (w' : World) : Prop :=
  ∃ r', RRep w' base r' ∧ r'.rp = r.rp ∧ Cpl h' r' ∧ Keeps r.fp w w' ∧ ∀ k, r'.fp k → r.fp k ∨ w.heap.size ≤ k
theorem RStep.same {w w' : World} {base : Nat} {r : RH} {h : LH} (hr : RRep w base r) (c : Cpl h r) (hx : Ext w w') : RStep w base r h w' :=
  ⟨r, hr.ext hx, rfl, c, hx.mono fun _ _ => False.elim, fun k hk => .inl hk⟩

def setRB (arr n : Nat) (u : Wd) (y : RB) : RB := if y.arr = arr then { y with b := { y.b with ws := y.b.ws.set n u } } else y
theorem setRB_arr (arr n : Nat) (u : Wd) (y : RB) : (setRB arr n u y).arr = y.arr := by unfold setRB; split <;> rfl
theorem setRB_sl (arr n : Nat) (u : Wd) (y : RB) : (setRB arr n u y).sl = y.sl := by unfold setRB RB.sl; split <;> simp
theorem setRB_at (arr n : Nat) (u : Wd) (y : RB) : (setRB arr n u y).b.at_ = y.b.at_ := by unfold setRB; split <;> rfl
theorem setRB_kind (arr n : Nat) (u : Wd) (y : RB) : (setRB arr n u y).b.kind = y.b.kind := by unfold setRB; split <;> rfl
theorem setRB_cells (arr n : Nat) (u : Wd) (l : List RB) : bksCells ((l.map (setRB arr n u)).map RB.b) ((l.map (setRB arr n u)).map RB.sl) = bksCells (l.map RB.b) (l.map RB.sl) := by
  induction l with
  | nil => rfl
  | cons y l ih => simp only [List.map_cons, bksCells, bkCells, setRB_at, setRB_kind, setRB_sl, ih]
theorem rowR_set {w : World} {base : Nat} {v : Value} {l : List RB} (h : rowR w base v l) (arr n : Nat) (u : Wd) : rowR w base v (l.map (setRB arr n u)) := by
  unfold rowR at *; rw [setRB_cells, List.length_map]; exact h
theorem bused_setB (k : Int) (i : Nat) (u : Wd) (l : List Bk) : bused (l.map (setB k i u)) = bused l := by
  induction l with
  | nil => rfl
  | cons b l ih => rw [List.map_cons, bused_cons, bused_cons, ih]; unfold setB; split <;> simp
theorem Dense_setB (k : Int) (i : Nat) (u : Wd) {f : Int} {l : List Bk} (h : Dense f l) : Dense f (l.map (setB k i u)) := by
  induction l generalizing f with
  | nil => trivial
  | cons b l ih =>
    refine ⟨(setB_at k i u b).trans h.1, ?_⟩
    have : ((setB k i u b).ws.length : Int) = b.ws.length := by unfold setB; split <;> simp
    rw [this]; exact ih h.2
def RH.setW (r : RH) (arr n : Nat) (u : Wd) : RH := { r with yb := r.yb.map (setRB arr n u), ob := r.ob.map (setRB arr n u) }
theorem RH.setW_all (r : RH) (arr n : Nat) (u : Wd) : (r.setW arr n u).all = r.all.map (setRB arr n u) := by simp [RH.all, RH.setW]
theorem RH.setW_fp (r : RH) (arr n : Nat) (u : Wd) (k : Nat) : (r.setW arr n u).fp k ↔ r.fp k := by
  unfold RH.fp
  rw [RH.setW_all, List.map_map]
  have : (RB.arr ∘ setRB arr n u) = RB.arr := by funext y; exact setRB_arr arr n u y
  rw [this]; rfl
theorem inj_arr {l : List RB} (h : (l.map RB.arr).Nodup) {y z : RB} (hy : y ∈ l) (hz : z ∈ l) (e : y.arr = z.arr) : y = z := inj_on_of_nodup_map h hy hz e
theorem inj_at {r : RH} (h : LOk r.log) {y z : RB} (hy : y ∈ r.all) (hz : z ∈ r.all) (e : y.b.at_ = z.b.at_) : y = z := by
  have hn := h.ats
  rw [RH.log_all, List.map_map] at hn
  exact inj_on_of_nodup_map hn hy hz e
theorem RRep.set_b {w : World} {base : Nat} {r : RH} (h : RRep w base r) {y : RB} (hy : y ∈ r.all) (n : Nat) (u : Wd) {z : RB} (hz : z ∈ r.all) : (setRB y.arr n u z).b = setB y.b.at_ n u z.b := by
  unfold setRB setB
  by_cases e : z.arr = y.arr
  · have := inj_arr h.arrs hz hy e
    subst this
    rw [if_pos rfl, if_pos rfl]
  · rw [if_neg e, if_neg fun e2 => e (by rw [inj_at h.ok hz hy e2])]
theorem RRep.setWord {w : World} {base : Nat} {r : RH} (h : RRep w base r) {y : RB} (hy : y ∈ r.all) {n : Nat} (hn : n < y.b.ws.length) (u : Wd) :
    RRep (putWord w y.arr n u) base (r.setW y.arr n u) := by
  have hb := h.wo y hy
  have hk : ∀ k c t, Blk w k c t → t ≠ 33 → (putWord w y.arr n u).heap[k]? = w.heap[k]? := fun k c t hc ht => putWord_heap w y.arr n u k (hc.ne hb ht)
  have hyb : (r.setW y.arr n u).yb.map RB.b = r.log.yb.map (setB y.b.at_ n u) := by
    show (r.yb.map (setRB y.arr n u)).map RB.b = (r.yb.map RB.b).map (setB y.b.at_ n u)
    rw [List.map_map, List.map_map]; exact List.map_congr_left fun z hz => h.set_b hy n u (List.mem_append_left _ hz)
  have hob : (r.setW y.arr n u).ob.map RB.b = r.log.ob.map (setB y.b.at_ n u) := by
    show (r.ob.map (setRB y.arr n u)).map RB.b = (r.ob.map RB.b).map (setB y.b.at_ n u)
    rw [List.map_map, List.map_map]; exact List.map_congr_left fun z hz => h.set_b hy n u (List.mem_append_right _ hz)
  exact
    { blk := (hk _ _ _ h.blk (by decide)).trans h.blk
      yrow := ownsRow_keeps (rowR_set h.yrow y.arr n u) fun k e => by obtain ⟨cur, hc⟩ := ownsRow_type h.yrow e; exact hk k _ _ hc (by decide)
      orow := ownsRow_keeps (rowR_set h.orow y.arr n u) fun k e => by obtain ⟨cur, hc⟩ := ownsRow_type h.orow e; exact hk k _ _ hc (by decide)
      mrow := ownsRow_keeps h.mrow fun k e => by obtain ⟨cur, hc⟩ := ownsRow_type h.mrow e; exact hk k _ _ hc (by decide)
      rows := h.rows
      wo := fun z hz => by
        rw [RH.setW_all] at hz
        obtain ⟨z0, hz0, rfl⟩ := List.mem_map.1 hz
        rw [setRB_arr]
        by_cases e : z0.arr = y.arr
        · have := inj_arr h.arrs hz0 hy e
          subst this
          have e2 : (setRB z0.arr n u z0).b.ws = z0.b.ws.set n u := by unfold setRB; rw [if_pos rfl]
          rw [e2]; exact hb.word n u hn
        · have e2 : setRB y.arr n u z0 = z0 := by unfold setRB; rw [if_neg e]
          rw [e2]; exact (putWord_heap w y.arr n u _ e).trans (h.wo z0 hz0)
      arrs := by
        rw [RH.setW_all, List.map_map]
        have : (RB.arr ∘ setRB y.arr n u) = RB.arr := by funext z; exact setRB_arr y.arr n u z
        rw [this]; exact h.arrs
      base_ := fun k hk2 => h.base_ k ((RH.setW_fp r _ _ _ k).1 hk2)
      sorted := h.sorted
      msub := fun k hk2 => by
        show k ∈ ((r.ob.map (setRB y.arr n u)).map RB.b).map Bk.at_
        have e : (Bk.at_ ∘ RB.b) ∘ setRB y.arr n u = Bk.at_ ∘ RB.b := by funext z; exact setRB_at y.arr n u z
        rw [List.map_map, List.map_map, e, ← List.map_map]; exact h.msub k hk2
      ok := ⟨h.ok.Y0, h.ok.O0, by show bused ((r.setW y.arr n u).yb.map RB.b) ≤ r.Y; rw [hyb, bused_setB]; exact h.ok.uy,
        by show bused ((r.setW y.arr n u).ob.map RB.b) ≤ r.O; rw [hob, bused_setB]; exact h.ok.uo,
        by show Dense 1 ((r.setW y.arr n u).yb.map RB.b); rw [hyb]; exact Dense_setB _ _ _ h.ok.dy,
        by show Dense (r.Y + 1) ((r.setW y.arr n u).ob.map RB.b); rw [hob]; exact Dense_setB _ _ _ h.ok.do_⟩
      Y1 := h.Y1
      O1 := h.O1 }
/-- Another Mem. -/
theorem RRep.setM {w w' : World} {base : Nat} {r : RH} (h : RRep w base r) {v : Value} {M : List Int} (hw : w' = w.setCell ⟨r.rp, 4, none⟩ v) {b0 : Nat} (hb : base ≤ b0) (hrow : w.ownsRow b0 3 1 v M.length (M.map (Value.int .i64))) (hs : M.Pairwise (· < ·)) (hm : ∀ k ∈ M, k ∈ (r.ob.map RB.b).map Bk.at_) :
    RRep w' base { r with ma := v, M := M } := by
  have hk : Keeps (· = r.rp) w w' := by rw [hw]; exact (Keeps.refl (· = r.rp) w).setCell (p := ⟨r.rp, 4, none⟩) (.inl rfl) _
  have ht : ∀ {k : Nat} {c : Array Value} {t : TypeId}, Blk w k c t → t ≠ 69 → w'.heap[k]? = w.heap[k]? := fun {k c t} hc hne => hk.block k hc.lt (hc.ne h.blk hne)
  exact
    { blk := by rw [hw]; have := h.blk.set 4 v; simpa [RH.cells] using this
      yrow := ownsRow_keeps h.yrow fun k e => by obtain ⟨cur, hc⟩ := ownsRow_type h.yrow e; exact ht hc (by decide)
      orow := ownsRow_keeps h.orow fun k e => by obtain ⟨cur, hc⟩ := ownsRow_type h.orow e; exact ht hc (by decide)
      mrow := ownsRow_base (ownsRow_keeps hrow fun k e => by obtain ⟨cur, hc⟩ := ownsRow_type hrow e; exact ht hc (by decide)) hb
      rows := h.rows
      wo := fun z hz => (ht (h.wo z hz) (by decide)).trans (h.wo z hz)
      arrs := h.arrs
      base_ := fun k hk2 => by
        rcases hk2 with e | e | e | e | e
        · exact h.base_ k (.inl e)
        · exact h.base_ k (.inr (.inl e))
        · exact h.base_ k (.inr (.inr (.inl e)))
        · have := (hrow.lt k e.symm).1; omega
        · exact h.base_ k (.inr (.inr (.inr (.inr e))))
      sorted := hs
      msub := hm
      ok := ⟨h.ok.Y0, h.ok.O0, h.ok.uy, h.ok.uo, h.ok.dy, h.ok.do_⟩
      Y1 := h.Y1
      O1 := h.O1 }
end Go.Proofs.Ytikigppfnhilhaa
/- Store of the reference: the walk. -/
namespace Go.Proofs.Ytikigppfnhilhaa
open Go.RowKit Go.Instr
set_option linter.unusedVariables false
set_option linter.unusedSimpArgs false
attribute [local go_sem] Oper.semAt_some

theorem LOk.pos2 {h : LH} (k : LOk h) {b : Bk} (hb : b ∈ h.all) : 0 < b.at_ := by
  rcases List.mem_append.1 hb with hh | hh
  · have := k.dy.mem hh; omega
  · have := k.do_.mem hh; have := k.Y0; omega
theorem store_marks {h : LH} (k : LOk h) {u : Wd} (hb : h.bad u = false) (a : Int) : h.marks a u = (decide (h.Y < a) && h.yg u) := by
  unfold LH.marks LH.yg
  by_cases ht : u.tag = 1
  · have hr : refW u = u.a := by unfold refW; rw [if_pos ht]
    by_cases hz : u.a = 0
    · rw [hr]; simp [hz]
    · obtain ⟨t, htm, hta⟩ := bad_iff.1 hb (by rw [hr]; exact hz)
      have hf : h.find (refW u) = some t := by rw [← hta]; exact k.find htm
      have hp := k.pos2 htm
      rw [hr] at hta
      rw [hf, hr]
      simp only [ht, hta, true_and]
      rw [Bool.eq_iff_iff]
      simp
      omega
  · have hr : refW u = 0 := by unfold refW; rw [if_neg ht]
    rw [hr]; simp [ht]
theorem RRep.base_le {w : World} {base : Nat} {r : RH} (h : RRep w base r) : base ≤ w.heap.size := by
  have := h.base_ r.rp (.inl rfl); have := h.fp_lt r.rp (.inl rfl); omega
def RStoreR (w : World) (base : Nat) (r : RH) (h : LH) (a i : Int) (u : Wd) (e : Ending) (w' : World) : Prop := e = .returned (.int .i64 (h.store a i u).2) ∧ RStep w base r (h.store a i u).1 w'
set_option maxRecDepth 100000 in
set_option maxHeartbeats 8000000 in
theorem RStore_any {w : World} {base : Nat} {r : RH} {h : LH} (hr : RRep w base r) (c : Cpl h r) (a i : Int) (u : Wd) :
    Calls Try.prog 52 #[.pointer (some ⟨r.rp, 0, none⟩), .int .i64 a, .int .i64 i, u.val] w (RStoreR w base r h a i u) := by
  generalize hM : RStoreR w base r h a i u = M
  have HM := Lib.hid hM
  have H := Lib.hid hr
  have C := Lib.hid c
  have hfind : h.find a = (r.find a).map RB.b := (c.find a).trans (RH.find_log r a)
  have Hfind := Lib.hid hfind
  clear hM hr c hfind
  unfold Wd.val Wd.cells
  go_enter Try.func52, Try.ntmps52
  obtain ⟨bx, hbx⟩ : ∃ bx, w.heap.size = bx := ⟨_, rfl⟩
  go_wp2_with fail
  obtain ⟨w1, hw1⟩ : ∃ w1, w.alloc (.cells #[.int .i64 u.tag, .int .i64 u.a, .int .i64 u.b, .string u.text, .int .i64 u.man, .int .i64 u.exp] 33) = w1 := ⟨_, rfl⟩
  have HX1 : Hid (Ext w w1) := Lib.hid (by rw [← hw1]; exact (Ext.refl w).alloc _)
  have HB1 : Hid (Blk w1 bx #[.int .i64 u.tag, .int .i64 u.a, .int .i64 u.b, .string u.text, .int .i64 u.man, .int .i64 u.exp] 33) := Lib.hid (by rw [← hw1, ← hbx]; exact Blk.new w _ _)
  have Hbx := Lib.hid hbx
  rw [hw1]
  clear hw1 hbx
  refine (RBlock_any (H.out.ext HX1.out) a).mono ?_
  rintro e w2 ⟨rfl, hx2⟩
  have HX2 := Lib.hid (HX1.out.trans hx2)
  have HB2 := Lib.hid (hx2.blk HB1.out id)
  clear hx2 HB1 HX1
  cases hf : r.find a with
  | none =>
    have Hst : Hid (h.store a i u = (h, 5)) := Lib.hid (by
      have e1 := Hfind.out
      rw [hf] at e1
      have : h.storeE a i u = 5 := by unfold LH.storeE; rw [e1]; rfl
      unfold LH.store; rw [this, if_neg (by omega)])
    unfold blkV blkE
    clear hf
    go_wp2_with fail
    rw [← HM.out]
    exact ⟨by rw [Hst.out]; rfl, by rw [Hst.out]; exact RStep.same H.out C.out (HX2.out.alloc _)⟩
  | some y =>
    have e1 := Hfind.out
    rw [hf] at e1
    have He := Lib.hid e1
    have hym := (RH.find_mem hf).1
    have Hym := Lib.hid hym
    have Hya := Lib.hid (RH.find_mem hf).2
    have hlen : y.b.ws.length ≤ 1000 := H.out.len (by rw [RH.log_all]; exact List.mem_map_of_mem hym)
    unfold blkV blkE RB.sl
    clear hf e1 hym
    by_cases hi : 0 ≤ i ∧ i < y.b.ws.length
    · obtain ⟨n, rfl⟩ : ∃ n : Nat, i = n := ⟨i.toNat, by omega⟩
      have hn : n < y.b.ws.length := by omega
      have Hi := Lib.hid hi
      clear hi
      obtain ⟨bb, hbb⟩ : ∃ bb, w2.heap.size = bb := ⟨_, rfl⟩
      obtain ⟨W, hW⟩ : ∃ W, w2.alloc (.cells #[.int .i64 y.b.at_, .int .i64 y.b.kind, .slice (some ⟨y.arr, 0, none⟩) y.b.ws.length y.b.ws.length] 49) = W := ⟨_, rfl⟩
      have HXW : Hid (Ext w W) := Lib.hid (by rw [← hW]; exact HX2.out.alloc _)
      have HBx : Hid (Blk W bx #[.int .i64 u.tag, .int .i64 u.a, .int .i64 u.b, .string u.text, .int .i64 u.man, .int .i64 u.exp] 33) := Lib.hid (by rw [← hW]; exact HB2.out.alloc _)
      have HBb : Hid (Blk W bb #[.int .i64 y.b.at_, .int .i64 y.b.kind, .slice (some ⟨y.arr, 0, none⟩) y.b.ws.length y.b.ws.length] 49) := Lib.hid (by rw [← hW, ← hbb]; exact Blk.new w2 _ _)
      have b0 : W.cell? ⟨bx, 0, none⟩ = some (.int .i64 u.tag) := (HBx.out.cell 0).trans rfl
      have b1 : W.cell? ⟨bx, 0 + 1, none⟩ = some (.int .i64 u.a) := (HBx.out.cell 1).trans rfl
      have b2 : W.cell? ⟨bx, 0 + 2, none⟩ = some (.int .i64 u.b) := (HBx.out.cell 2).trans rfl
      have b3 : W.cell? ⟨bx, 0 + 3, none⟩ = some (.string u.text) := (HBx.out.cell 3).trans rfl
      have b4 : W.cell? ⟨bx, 0 + 4, none⟩ = some (.int .i64 u.man) := (HBx.out.cell 4).trans rfl
      have b5 : W.cell? ⟨bx, 0 + 5, none⟩ = some (.int .i64 u.exp) := (HBx.out.cell 5).trans rfl
      have Hbb := Lib.hid hbb
      subst hW
      go_wp2_with fail
      generalize w2.alloc (.cells #[.int .i64 y.b.at_, .int .i64 y.b.kind, .slice (some ⟨y.arr, 0, none⟩) y.b.ws.length y.b.ws.length] 49) = W at HXW HBx HBb b0 b1 b2 b3 b4 b5 ⊢
      have HC := Lib.hid (Rright_any (H.out.ext HXW.out) u)
      unfold Wd.val Wd.cells at HC
      clear b0 b1 b2 b3 b4 b5 hbb
      refine HC.out.mono ?_
      rintro e w3 ⟨rfl, hx3⟩
      have HX3 := Lib.hid (HXW.out.trans hx3)
      have HBx := Lib.hid (hx3.blk HBx.out id)
      have HBb := Lib.hid (hx3.blk HBb.out id)
      clear hx3 HC HXW HB2 HX2
      have Hbad : Hid (h.bad u = r.log.bad u) := Lib.hid (by rw [C.out.bad])
      by_cases hb : r.log.bad u = true
      · have Hst : Hid (h.store a n u = (h, 1)) := Lib.hid (by
          have hbu := Hbad.out; rw [hb] at hbu
          have : h.storeE a n u = 1 := by
            unfold LH.storeE; rw [He.out]; simp only [Option.map_some]
            rw [if_pos Hi.out]
            unfold LH.bad at hbu
            simp only [Bool.and_eq_true, bne_iff_ne, ne_eq, Option.isNone_iff_eq_none] at hbu
            rw [if_neg hbu.1, hbu.2]
          unfold LH.store; rw [this, if_neg (by omega)])
        rw [hb]
        clear hb
        go_wp2_with fail
        rw [← HM.out]
        exact ⟨by rw [Hst.out]; rfl, by rw [Hst.out]; exact RStep.same H.out C.out HX3.out⟩
      · have hb' : r.log.bad u = false := by simpa using hb
        have Hb := Lib.hid hb'
        have Hst : Hid (h.store a n u = ({ h with yb := h.yb.map (setB a n u), ob := h.ob.map (setB a n u), R := if h.marks a u then insR a h.R else h.R }, 0)) := Lib.hid (by
          have hbu := Hbad.out; rw [hb'] at hbu
          have : h.storeE a n u = 0 := by
            unfold LH.storeE; rw [He.out]; simp only [Option.map_some]
            rw [if_pos Hi.out]
            unfold LH.bad at hbu
            split
            · rfl
            · rename_i hz
              cases hfu : h.find (refW u) with
              | none => rw [hfu] at hbu; simp at hbu; exact (hz hbu).elim
              | some t => rfl
          unfold LH.store; rw [this, if_pos rfl]; rfl)
        rw [hb']
        clear hb hb'
        have Hyb := Lib.hid ((H.out.ext HX3.out).wo y Hym.out)
        have k0 : w3.cell? ⟨bb, 0 + 2, none⟩ = some (.slice (some ⟨y.arr, 0, none⟩) y.b.ws.length y.b.ws.length) := (HBb.out.cell 2).trans rfl
        have b0 : w3.cell? ⟨bx, 0, none⟩ = some (.int .i64 u.tag) := (HBx.out.cell 0).trans rfl
        have b1 : w3.cell? ⟨bx, 0 + 1, none⟩ = some (.int .i64 u.a) := (HBx.out.cell 1).trans rfl
        have b2 : w3.cell? ⟨bx, 0 + 2, none⟩ = some (.int .i64 u.b) := (HBx.out.cell 2).trans rfl
        have b3 : w3.cell? ⟨bx, 0 + 3, none⟩ = some (.string u.text) := (HBx.out.cell 3).trans rfl
        have b4 : w3.cell? ⟨bx, 0 + 4, none⟩ = some (.int .i64 u.man) := (HBx.out.cell 4).trans rfl
        have b5 : w3.cell? ⟨bx, 0 + 5, none⟩ = some (.int .i64 u.exp) := (HBx.out.cell 5).trans rfl
        have hys : ∀ j, j < 6 → ∃ z, w3.cell? ⟨y.arr, n * 6 + j, none⟩ = some z := fun j hj => by
          obtain ⟨u0, hu0⟩ : ∃ u0, y.b.ws[n]? = some u0 := ⟨_, List.getElem?_eq_getElem hn⟩
          have h1 := (Hyb.out.cell (n * 6 + j)).trans (flat_get _ n u0 hu0 j hj)
          have h2 : j < u0.cells.length := by simp [Wd.cells]; omega
          exact ⟨_, h1.trans (List.getElem?_eq_getElem h2)⟩
        obtain ⟨s0, d0⟩ := hys 0 (by omega)
        obtain ⟨s1, d1⟩ := hys 1 (by omega)
        obtain ⟨s2, d2⟩ := hys 2 (by omega)
        obtain ⟨s3, d3⟩ := hys 3 (by omega)
        obtain ⟨s4, d4⟩ := hys 4 (by omega)
        obtain ⟨s5, d5⟩ := hys 5 (by omega)
        rw [Nat.add_zero] at d0
        have g0 := Hyb.out.frozen (n * 6)
        have g1 := Hyb.out.frozen (n * 6 + 1)
        have g2 := Hyb.out.frozen (n * 6 + 2)
        have g3 := Hyb.out.frozen (n * 6 + 3)
        have g4 := Hyb.out.frozen (n * 6 + 4)
        have g5 := Hyb.out.frozen (n * 6 + 5)
        have Hne : Hid (bx ≠ y.arr) := Lib.hid (by
          have h1 := H.out.fp_lt y.arr (.inr (.inr (.inr (.inr (List.mem_map_of_mem Hym.out)))))
          have := Hbx.out; omega)
        go_upto_region 9 with fail
        obtain ⟨W4, hW4⟩ : ∃ W4, (((((w3.setCell ⟨y.arr, n * 6, none⟩ (.int .i64 u.tag)).setCell ⟨y.arr, n * 6 + 1, none⟩ (.int .i64 u.a)).setCell ⟨y.arr, n * 6 + 2, none⟩ (.int .i64 u.b)).setCell ⟨y.arr, n * 6 + 3, none⟩ (.string u.text)).setCell ⟨y.arr, n * 6 + 4, none⟩ (.int .i64 u.man)).setCell ⟨y.arr, n * 6 + 5, none⟩ (.int .i64 u.exp) = W4 := ⟨_, rfl⟩
        have H4 : Hid (RRep W4 base (r.setW y.arr n u)) := Lib.hid (by rw [← hW4]; exact (H.out.ext HX3.out).setWord Hym.out hn u)
        have HK4 : Hid (Keeps (· = y.arr) w3 W4) := Lib.hid (by rw [← hW4]; exact (Keeps.refl (· = y.arr) w3).putWord (.inl rfl) n u)
        have HBx4 := Lib.hid (HK4.out.blk HBx.out Hne.out)
        rw [hW4]
        clear hW4 b0 b1 b2 b3 b4 b5 d0 d1 d2 d3 d4 d5 g0 g1 g2 g3 g4 g5 k0 hys
        have y0 : W4.cell? ⟨r.rp, 0, none⟩ = some (.int .i64 r.Y) := H4.out.c0
        have e0 : W4.cell? ⟨bx, 0, none⟩ = some (.int .i64 u.tag) := (HBx4.out.cell 0).trans rfl
        have e1 : W4.cell? ⟨bx, 0 + 1, none⟩ = some (.int .i64 u.a) := (HBx4.out.cell 1).trans rfl
        have e2 : W4.cell? ⟨bx, 0 + 2, none⟩ = some (.int .i64 u.b) := (HBx4.out.cell 2).trans rfl
        have e3 : W4.cell? ⟨bx, 0 + 3, none⟩ = some (.string u.text) := (HBx4.out.cell 3).trans rfl
        have e4 : W4.cell? ⟨bx, 0 + 4, none⟩ = some (.int .i64 u.man) := (HBx4.out.cell 4).trans rfl
        have e5 : W4.cell? ⟨bx, 0 + 5, none⟩ = some (.int .i64 u.exp) := (HBx4.out.cell 5).trans rfl
        have HKs : Hid (Keeps r.fp w W4) := Lib.hid ((HX3.out.mono fun _ _ h => h.elim : Keeps r.fp w w3).trans' HK4.out fun k hk e => by
          rw [e]; exact .inr (.inr (.inr (.inr (List.mem_map_of_mem Hym.out)))))
        have HB0 := Lib.hid H.out.base_le
        have Hyb2 : Hid (h.yb.map (setB a n u) = (r.setW y.arr n u).yb.map RB.b) := Lib.hid (by
          rw [C.out.yb, ← Hya.out]
          show _ = (r.yb.map (setRB y.arr n u)).map RB.b
          rw [List.map_map, List.map_map]; exact (List.map_congr_left fun z hz => H.out.set_b Hym.out n u (List.mem_append_left _ hz)).symm)
        have Hob2 : Hid (h.ob.map (setB a n u) = (r.setW y.arr n u).ob.map RB.b) := Lib.hid (by
          rw [C.out.ob, ← Hya.out]
          show _ = (r.ob.map (setRB y.arr n u)).map RB.b
          rw [List.map_map, List.map_map]; exact (List.map_congr_left fun z hz => H.out.set_b Hym.out n u (List.mem_append_right _ hz)).symm)
        have HokH : Hid (LOk h) := Lib.hid ⟨by rw [C.out.Y]; exact H.out.ok.Y0, by rw [C.out.O]; exact H.out.ok.O0, by rw [C.out.yb, C.out.Y]; exact H.out.ok.uy, by rw [C.out.ob, C.out.O]; exact H.out.ok.uo, by rw [C.out.yb]; exact H.out.ok.dy, by rw [C.out.ob, C.out.Y]; exact H.out.ok.do_⟩
        have Hmk : Hid (h.marks a u = (decide (r.Y < a) && r.log.yg u)) := Lib.hid (by
          have hbu := Hbad.out; rw [Hb.out] at hbu
          rw [store_marks HokH.out hbu, C.out.Y]
          unfold LH.yg; rw [C.out.Y]; rfl)
        have hnomark : Hid (h.marks a u = false → ∀ W, Ext W4 W → RStep w base r (h.store a n u).1 W) := Lib.hid fun hm W hW => by
          rw [Hst.out, hm]
          exact ⟨r.setW y.arr n u, H4.out.ext hW, rfl, ⟨C.out.Y, C.out.O, Hyb2.out, Hob2.out, C.out.R⟩, HKs.out.trans' hW fun _ _ h => h.elim, fun k hk => .inl ((RH.setW_fp r _ _ _ k).1 hk)⟩
        by_cases ha : r.Y < a
        · have hyy := Hmk.out
          rw [decide_eq_true ha, Bool.true_and] at hyy
          have Hmk2 := Lib.hid hyy
          have HYg := Lib.hid (Ryoung_any H4.out u)
          unfold Wd.val Wd.cells at HYg
          clear hyy
          go_wp2_with fail
          clear e0 e1 e2 e3 e4 e5
          refine HYg.out.mono ?_
          rintro e w5 ⟨rfl, hx5⟩
          have HX5 := Lib.hid hx5
          clear hx5
          have eY : (r.setW y.arr n u).log.yg u = r.log.yg u := rfl
          rw [eY]
          by_cases hyg : r.log.yg u = true
          · have Hm : Hid (h.marks a u = true) := Lib.hid (by rw [Hmk2.out, hyg])
            rw [hyg]
            clear hyg
            have H5 := Lib.hid (H4.out.ext HX5.out)
            have m4 : w5.cell? ⟨r.rp, 0 + 4, none⟩ = some r.ma := H5.out.c4
            have HC := Lib.hid (Rinto_any H5.out.mrow H5.out.sorted (Nat.le_trans H5.out.mlen (by omega)) a)
            go_wp2_with fail
            refine HC.out.mono ?_
            rintro e w6 ⟨v', zs', rfl, hok, hrow, hx6⟩
            have H6 := Lib.hid (H5.out.ext hx6)
            have HX6 := Lib.hid (HX5.out.trans hx6)
            have Hs56 := Lib.hid hx6.size
            have Hok := Lib.hid hok
            have Hrow := Lib.hid hrow
            have haM : ∀ k ∈ zs', k ∈ ((r.setW y.arr n u).ob.map RB.b).map Bk.at_ := fun k hk => by
              rcases (Hok.out.mem k).1 hk with e | hk
              · rw [e]
                have hyo : y ∈ r.ob := by
                  rcases List.mem_append.1 Hym.out with hh | hh
                  · have h1 := H.out.ok.dy.mem (List.mem_map_of_mem (f := RB.b) hh)
                    have h2 := H.out.ok.uy
                    have e1 : r.log.Y = r.Y := rfl
                    rw [e1] at h2
                    have := Hya.out; omega
                  · exact hh
                rw [← Hya.out]
                have e3 := setRB_at y.arr n u y
                rw [← e3]; exact List.mem_map_of_mem (List.mem_map_of_mem (List.mem_map_of_mem hyo))
              · exact H6.out.msub k hk
            have hown : ∃ b0, base ≤ b0 ∧ w6.ownsRow b0 3 1 v' zs'.length (zs'.map (Value.int .i64)) ∧ ∀ k, some k = v'.ownBlock → r.fp k ∨ w.heap.size ≤ k := by
              have hs5 := HX5.out.size
              have hks := HKs.out.size
              rcases Hrow.out with ⟨e1, e2⟩ | hf
              · subst e1; subst e2
                exact ⟨base, Nat.le_refl _, H6.out.mrow, fun k hk => .inl (.inr (.inr (.inr (.inl hk))))⟩
              · exact ⟨w5.heap.size, by have := HB0.out; omega, hf, fun k hk => .inr (by have := (hf.lt k hk.symm).1; omega)⟩
            obtain ⟨b0, hb0, hrow, hfpv⟩ := hown
            obtain ⟨va, vc, rfl⟩ := own_slice hrow
            have HaM := Lib.hid haM; have Hro := Lib.hid hrow; have Hfpv := Lib.hid hfpv; have Hb0 := Lib.hid hb0
            have m6 : w6.cell? ⟨r.rp, 0 + 4, none⟩ = some r.ma := H6.out.c4
            have f6 : w6.frozen? ⟨r.rp, 4, none⟩ = false := H6.out.blk.frozen 4
            have Hxx6 := Lib.hid hx6
            clear m4 y0 hok hrow hx6 HC haM hfpv hb0 Hrow
            go_wp2_with fail
            have hR7 := H6.out.setM (M := zs') rfl Hb0.out Hro.out Hok.out.sorted HaM.out
            rw [← HM.out]
            refine ⟨by rw [Hst.out]; rfl, ?_⟩
            rw [Hst.out, Hm.out, if_pos rfl]
            refine ⟨_, hR7, rfl, ⟨C.out.Y, C.out.O, Hyb2.out, Hob2.out, fun k => ?_⟩, ?_, ?_⟩
            · rw [mem_insR, C.out.R]; exact (Hok.out.mem k).symm
            · exact (HKs.out.trans' HX6.out fun _ _ h => h.elim).setCell (p := ⟨r.rp, 4, none⟩) (.inl (.inl rfl)) _
            · intro k hk
              rcases hk with e | e | e | e | e
              · exact .inl (.inl e)
              · exact .inl (.inr (.inl e))
              · exact .inl (.inr (.inr (.inl e)))
              · exact Hfpv.out k e
              · exact .inl ((RH.setW_fp r y.arr n u k).1 (.inr (.inr (.inr (.inr e)))))
          · have hyg' : r.log.yg u = false := by simpa using hyg
            have Hm : Hid (h.marks a u = false) := Lib.hid (by rw [Hmk2.out, hyg'])
            rw [hyg']
            clear hyg hyg'
            go_wp2_with fail
            rw [← HM.out]
            exact ⟨by rw [Hst.out]; rfl, hnomark.out Hm.out _ HX5.out⟩
        · have Hm : Hid (h.marks a u = false) := Lib.hid (by rw [Hmk.out, decide_eq_false ha]; rfl)
          go_wp2_with fail
          rw [← HM.out]
          exact ⟨by rw [Hst.out], hnomark.out Hm.out _ (Ext.refl _)⟩
    · have Hst : Hid (h.store a i u = (h, 3)) := Lib.hid (by
        have : h.storeE a i u = 3 := by unfold LH.storeE; rw [He.out]; simp only [Option.map_some]; rw [if_neg hi]
        unfold LH.store; rw [this, if_neg (by omega)])
      have hi2 : i < 0 ∨ (¬ i < 0 ∧ (y.b.ws.length : Int) ≤ i) := by omega
      clear hi
      rcases hi2 with hi2 | ⟨hi2, hi3⟩
      · go_wp2_with fail
        rw [← HM.out]
        exact ⟨by rw [Hst.out]; rfl, by rw [Hst.out]; exact RStep.same H.out C.out (HX2.out.alloc _)⟩
      · go_wp2_with fail
        rw [← HM.out]
        exact ⟨by rw [Hst.out]; rfl, by rw [Hst.out]; exact RStep.same H.out C.out (HX2.out.alloc _)⟩
end Go.Proofs.Ytikigppfnhilhaa
