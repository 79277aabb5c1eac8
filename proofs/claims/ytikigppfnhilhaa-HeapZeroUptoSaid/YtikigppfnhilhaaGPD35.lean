/- young, right, rights, Block, Load, Free, Blocks, New of the reference. -/
import Derived.Test.YtikigppfnhilhaaGPD34
import Derived.Deep.QuietTactic
import Derived.BigQuiet
import Derived.Laws.ResultCell
/- young, right, rights, Block, Load, Free, Blocks, New of the reference. -/
namespace Go.Proofs.Ytikigppfnhilhaa
open Go.RowKit Go.Instr
set_option linter.unusedVariables false
set_option linter.unusedSimpArgs false
attribute [local go_sem] Oper.semAt_some

def RH.find (r : RH) (a : Int) : Option RB := r.all.find? fun y => y.b.at_ = a
theorem RH.find_log (r : RH) (a : Int) : r.log.find a = (r.find a).map RB.b := by
  unfold LH.find RH.find; rw [RH.log_all, List.find?_map]; rfl
theorem RH.find_mem {r : RH} {a : Int} {y : RB} (h : r.find a = some y) : y ∈ r.all ∧ y.b.at_ = a := ⟨List.mem_of_find?_eq_some h, by simpa using List.find?_some h⟩
theorem atI_cases (l : List RB) (a : Int) : (∃ (k : Nat) (y : RB), l[k]? = some y ∧ l.find? (fun y => y.b.at_ = a) = some y ∧ atI (l.map RB.b) a = k) ∨ (l.find? (fun y => y.b.at_ = a) = none ∧ atI (l.map RB.b) a = -1) := by
  cases h : l.find? (fun y => y.b.at_ = a) with
  | none =>
    refine .inr ⟨rfl, atI_neg fun b hb => ?_⟩
    obtain ⟨y, hy, rfl⟩ := List.mem_map.1 hb
    simpa using List.find?_eq_none.1 h y hy
  | some y =>
    obtain ⟨h1, i, hi, h2, h3⟩ := List.find?_eq_some_iff_getElem.1 h
    refine .inl ⟨i, y, by rw [List.getElem?_eq_getElem hi, h2], rfl, ?_⟩
    refine atI_pos (b := y.b) (by rw [List.getElem?_map, List.getElem?_eq_getElem hi, h2]; rfl) (by simpa using h1) fun c hc => ?_
    rw [← List.map_take] at hc
    obtain ⟨z, hz, rfl⟩ := List.mem_map.1 hc
    obtain ⟨j, hj, e⟩ := List.mem_take_iff_getElem.1 hz
    have := h3 j (by omega)
    rw [e] at this; simpa using this
theorem atI_ge (l : List Bk) (a : Int) : (0 ≤ atI l a) ↔ ∃ b ∈ l, b.at_ = a := by
  constructor
  · intro h
    refine Classical.byContradiction fun hn => ?_
    rw [atI_neg fun b hb e => hn ⟨b, hb, e⟩] at h; omega
  · rintro ⟨b, hb, e⟩
    unfold atI
    cases hf : l.findIdx? (fun b => b.at_ = a) with
    | some i => simp
    | none => have := List.findIdx?_eq_none_iff.1 hf b hb; simp at this; exact (this e).elim
theorem right_iff {h : LH} {u : Wd} (ht : u.tag = 1) (ha : u.a ≠ 0) : h.bad u = !(decide (0 ≤ atI h.yb u.a) || decide (0 ≤ atI h.ob u.a)) := by
  have hr : refW u = u.a := by unfold refW; rw [if_pos ht]
  rw [Bool.eq_iff_iff]
  have hb : h.bad u = true ↔ ¬ ∃ b ∈ h.all, b.at_ = u.a := by
    cases hc : h.bad u with
    | false =>
      have := bad_iff.1 hc (by rw [hr]; exact ha)
      rw [hr] at this; simp; obtain ⟨b, h1, h2⟩ := this; exact ⟨b, h1, h2⟩
    | true =>
      simp
      intro b hb e
      have : h.bad u = false := bad_iff.2 fun _ => ⟨b, hb, by rw [hr]; exact e⟩
      rw [hc] at this; cases this
  rw [hb]
  simp only [Bool.not_eq_true', Bool.or_eq_false_iff, decide_eq_false_iff_not, atI_ge]
  constructor
  · intro hn; exact ⟨fun ⟨b, h1, h2⟩ => hn ⟨b, List.mem_append_left _ h1, h2⟩, fun ⟨b, h1, h2⟩ => hn ⟨b, List.mem_append_right _ h1, h2⟩⟩
  · rintro ⟨h1, h2⟩ ⟨b, hb, e⟩
    rcases List.mem_append.1 hb with hb | hb
    · exact h1 ⟨b, hb, e⟩
    · exact h2 ⟨b, hb, e⟩
theorem right_triv {h : LH} {u : Wd} (ht : u.tag ≠ 1 ∨ u.a = 0) : h.bad u = false := bad_iff.2 fun hr => by
  unfold refW at hr
  rcases ht with ht | ht
  · rw [if_neg ht] at hr; exact (hr rfl).elim
  · split at hr
    · exact (hr ht).elim
    · exact (hr rfl).elim

/-! ### right -/
theorem Rat_same {w : World} {v : Value} {bs : List Bk} (h : RdB w v bs) (hl : bs.length ≤ 1000000) (a : Int) : Calls Try.prog 80 #[v, .int .i64 a] w fun e w' => e = .returned (.int .i64 (atI bs a)) ∧ w' = w := Rat_any h hl a
theorem Rused_same {w : World} {v : Value} {bs : List Bk} (h : RdB w v bs) (hl : bs.length ≤ 1000000) (hu : bused bs ≤ 1000000) : Calls Try.prog 73 #[v] w fun e w' => e = .returned (.int .i64 (bused bs)) ∧ w' = w := Rused_any h hl hu
def BoolR (b : Bool) (w : World) (e : Ending) (w' : World) : Prop := e = .returned (.bool b) ∧ Ext w w'
theorem RRep.c0 {w : World} {base : Nat} {r : RH} (h : RRep w base r) : w.cell? ⟨r.rp, 0, none⟩ = some (.int .i64 r.Y) := (h.blk.cell 0).trans rfl
theorem RRep.c1 {w : World} {base : Nat} {r : RH} (h : RRep w base r) : w.cell? ⟨r.rp, 1, none⟩ = some (.int .i64 r.O) := (h.blk.cell 1).trans rfl
theorem RRep.c2 {w : World} {base : Nat} {r : RH} (h : RRep w base r) : w.cell? ⟨r.rp, 2, none⟩ = some r.ya := (h.blk.cell 2).trans rfl
theorem RRep.c3 {w : World} {base : Nat} {r : RH} (h : RRep w base r) : w.cell? ⟨r.rp, 3, none⟩ = some r.oa := (h.blk.cell 3).trans rfl
theorem RRep.c4 {w : World} {base : Nat} {r : RH} (h : RRep w base r) : w.cell? ⟨r.rp, 4, none⟩ = some r.ma := (h.blk.cell 4).trans rfl
set_option maxRecDepth 100000 in
set_option maxHeartbeats 4000000 in
theorem Rright_any {w : World} {base : Nat} {r : RH} (h : RRep w base r) (u : Wd) : Calls Try.prog 74 #[.pointer (some ⟨r.rp, 0, none⟩), u.val] w (BoolR (!r.log.bad u) w) := by
  generalize hM : BoolR (!r.log.bad u) w = M
  have HM := Lib.hid hM
  clear hM
  unfold Wd.val Wd.cells
  by_cases ht : u.tag = 1
  · by_cases ha : u.a = 0
    · have Hb := Lib.hid (right_triv (h := r.log) (u := u) (.inr ha))
      have ht' : (u.tag != 1) = false := by simpa using ht
      have ha' : (u.a == 0) = true := by simpa using ha
      clear ht ha
      go_enter Try.func74, Try.ntmps74
      go_wp2_with fail
      obtain ⟨bx, hbx⟩ : ∃ bx, w.heap.size = bx := ⟨_, rfl⟩
      obtain ⟨w1, hw1⟩ : ∃ w1, w.alloc (.cells #[.int .i64 u.tag, .int .i64 u.a, .int .i64 u.b, .string u.text, .int .i64 u.man, .int .i64 u.exp] 33) = w1 := ⟨_, rfl⟩
      have HX1 : Hid (Ext w w1) := Lib.hid (by rw [← hw1]; exact (Ext.refl w).alloc _)
      have hB1 : Blk w1 bx #[.int .i64 u.tag, .int .i64 u.a, .int .i64 u.b, .string u.text, .int .i64 u.man, .int .i64 u.exp] 33 := by rw [← hw1, ← hbx]; exact Blk.new w _ _
      have b0 : w1.cell? ⟨bx, 0, none⟩ = some (.int .i64 u.tag) := (hB1.cell 0).trans rfl
      have b1 : w1.cell? ⟨bx, 0 + 1, none⟩ = some (.int .i64 u.a) := (hB1.cell 1).trans rfl
      rw [hw1, hbx]
      clear hw1 hbx hB1
      go_big_region
      go_wp2_with fail
      rw [← HM.out]
      exact ⟨by rw [Hb.out]; rfl, HX1.out.drew⟩
    · have Hb := Lib.hid (right_iff (h := r.log) ht ha)
      have ht' : (u.tag != 1) = false := by simpa using ht
      have ha' : (u.a == 0) = false := by simpa using ha
      have hly : r.log.yb.length ≤ 1000000 := Nat.le_trans h.ylen (by omega)
      have hlo : r.log.ob.length ≤ 1000000 := Nat.le_trans h.olen (by omega)
      clear ht ha
      go_enter Try.func74, Try.ntmps74
      go_wp2_with fail
      obtain ⟨bx, hbx⟩ : ∃ bx, w.heap.size = bx := ⟨_, rfl⟩
      obtain ⟨w1, hw1⟩ : ∃ w1, w.alloc (.cells #[.int .i64 u.tag, .int .i64 u.a, .int .i64 u.b, .string u.text, .int .i64 u.man, .int .i64 u.exp] 33) = w1 := ⟨_, rfl⟩
      have HX1 : Hid (Ext w w1) := Lib.hid (by rw [← hw1]; exact (Ext.refl w).alloc _)
      have hB1 : Blk w1 bx #[.int .i64 u.tag, .int .i64 u.a, .int .i64 u.b, .string u.text, .int .i64 u.man, .int .i64 u.exp] 33 := by rw [← hw1, ← hbx]; exact Blk.new w _ _
      have b0 : w1.cell? ⟨bx, 0, none⟩ = some (.int .i64 u.tag) := (hB1.cell 0).trans rfl
      have b1 : w1.cell? ⟨bx, 0 + 1, none⟩ = some (.int .i64 u.a) := (hB1.cell 1).trans rfl
      rw [hw1, hbx]
      clear hw1 hbx hB1
      have c2 : w1.cell? ⟨r.rp, 2, none⟩ = some r.ya := (h.ext HX1.out).c2
      have c3 : w1.cell? ⟨r.rp, 3, none⟩ = some r.oa := (h.ext HX1.out).c3
      have Hy := Lib.hid (h.ext HX1.out).rdy
      have Ho := Lib.hid (h.ext HX1.out).rdo
      by_cases hy : 0 ≤ atI r.log.yb u.a
      · have Hb2 : Hid (r.log.bad u = false) := Lib.hid (by rw [Hb.out]; simp [hy])
        have hy2 : decide (atI r.log.yb u.a ≥ 0) = true := by simpa using hy
        go_quiet ((go_at_call 80; first | ((with_reducible refine Calls.quiet_of_same (Rat_same (v := r.ya) (bs := r.log.yb) ?_ hly u.a)); exact Hy.out.ext ((Ext.refl w1).drewN _)) | ((with_reducible refine Calls.quiet_of_same (Rat_same (v := r.oa) (bs := r.log.ob) ?_ hlo u.a)); exact Ho.out.ext ((Ext.refl w1).drewN _))))
        go_wp2_with fail
        rw [← HM.out]
        exact ⟨by rw [Hb2.out]; rfl, HX1.out.drewN _⟩
      · have hy2 : decide (atI r.log.yb u.a ≥ 0) = false := by simpa using hy
        by_cases ho : 0 ≤ atI r.log.ob u.a
        · have Hb2 : Hid (r.log.bad u = false) := Lib.hid (by rw [Hb.out]; simp [ho])
          have ho2 : decide (atI r.log.ob u.a ≥ 0) = true := by simpa using ho
          go_quiet ((go_at_call 80; first | ((with_reducible refine Calls.quiet_of_same (Rat_same (v := r.ya) (bs := r.log.yb) ?_ hly u.a)); exact Hy.out.ext ((Ext.refl w1).drewN _)) | ((with_reducible refine Calls.quiet_of_same (Rat_same (v := r.oa) (bs := r.log.ob) ?_ hlo u.a)); exact Ho.out.ext ((Ext.refl w1).drewN _))))
          go_wp2_with fail
          rw [← HM.out]
          exact ⟨by rw [Hb2.out]; rfl, HX1.out.drewN _⟩
        · have Hb2 : Hid (r.log.bad u = true) := Lib.hid (by rw [Hb.out]; simp at hy ho ⊢; omega)
          have ho2 : decide (atI r.log.ob u.a ≥ 0) = false := by simpa using ho
          go_quiet ((go_at_call 80; first | ((with_reducible refine Calls.quiet_of_same (Rat_same (v := r.ya) (bs := r.log.yb) ?_ hly u.a)); exact Hy.out.ext ((Ext.refl w1).drewN _)) | ((with_reducible refine Calls.quiet_of_same (Rat_same (v := r.oa) (bs := r.log.ob) ?_ hlo u.a)); exact Ho.out.ext ((Ext.refl w1).drewN _))))
          go_wp2_with fail
          rw [← HM.out]
          exact ⟨by rw [Hb2.out]; rfl, HX1.out.drewN _⟩
  · have Hb := Lib.hid (right_triv (h := r.log) (u := u) (.inl ht))
    have ht' : (u.tag != 1) = true := by simpa using ht
    clear ht
    go_enter Try.func74, Try.ntmps74
    go_wp2_with fail
    obtain ⟨bx, hbx⟩ : ∃ bx, w.heap.size = bx := ⟨_, rfl⟩
    obtain ⟨w1, hw1⟩ : ∃ w1, w.alloc (.cells #[.int .i64 u.tag, .int .i64 u.a, .int .i64 u.b, .string u.text, .int .i64 u.man, .int .i64 u.exp] 33) = w1 := ⟨_, rfl⟩
    have HX1 : Hid (Ext w w1) := Lib.hid (by rw [← hw1]; exact (Ext.refl w).alloc _)
    have hB1 : Blk w1 bx #[.int .i64 u.tag, .int .i64 u.a, .int .i64 u.b, .string u.text, .int .i64 u.man, .int .i64 u.exp] 33 := by rw [← hw1, ← hbx]; exact Blk.new w _ _
    have b0 : w1.cell? ⟨bx, 0, none⟩ = some (.int .i64 u.tag) := (hB1.cell 0).trans rfl
    have b1 : w1.cell? ⟨bx, 0 + 1, none⟩ = some (.int .i64 u.a) := (hB1.cell 1).trans rfl
    rw [hw1, hbx]
    clear hw1 hbx hB1
    go_big_region
    go_wp2_with fail
    rw [← HM.out]
    exact ⟨by rw [Hb.out]; rfl, HX1.out.drew⟩

/-! ### young -/
def LH.yg (h : LH) (u : Wd) : Bool := decide (u.tag = 1 ∧ 0 < u.a ∧ u.a ≤ h.Y)
set_option maxRecDepth 100000 in
set_option maxHeartbeats 4000000 in
theorem Ryoung_any {w : World} {base : Nat} {r : RH} (h : RRep w base r) (u : Wd) : Calls Try.prog 75 #[.pointer (some ⟨r.rp, 0, none⟩), u.val] w (BoolR (r.log.yg u) w) := by
  generalize hM : BoolR (r.log.yg u) w = M
  have HM := Lib.hid hM
  clear hM
  unfold Wd.val Wd.cells
  have hY : r.log.Y = r.Y := rfl
  by_cases ht : u.tag = 1
  · have ht' : (u.tag == 1) = true := by simpa using ht
    by_cases ha : 0 < u.a
    · by_cases hy : u.a ≤ r.Y
      · have Hb : Hid (r.log.yg u = true) := Lib.hid (decide_eq_true ⟨ht, ha, hy⟩)
        clear ht
        go_enter Try.func75, Try.ntmps75
        go_wp2_with fail
        obtain ⟨bx, hbx⟩ : ∃ bx, w.heap.size = bx := ⟨_, rfl⟩
        obtain ⟨w1, hw1⟩ : ∃ w1, w.alloc (.cells #[.int .i64 u.tag, .int .i64 u.a, .int .i64 u.b, .string u.text, .int .i64 u.man, .int .i64 u.exp] 33) = w1 := ⟨_, rfl⟩
        have HX1 : Hid (Ext w w1) := Lib.hid (by rw [← hw1]; exact (Ext.refl w).alloc _)
        have hB1 : Blk w1 bx #[.int .i64 u.tag, .int .i64 u.a, .int .i64 u.b, .string u.text, .int .i64 u.man, .int .i64 u.exp] 33 := by rw [← hw1, ← hbx]; exact Blk.new w _ _
        have b0 : w1.cell? ⟨bx, 0, none⟩ = some (.int .i64 u.tag) := (hB1.cell 0).trans rfl
        have b1 : w1.cell? ⟨bx, 0 + 1, none⟩ = some (.int .i64 u.a) := (hB1.cell 1).trans rfl
        have y0 : w1.cell? ⟨r.rp, 0, none⟩ = some (.int .i64 r.Y) := (h.ext HX1.out).c0
        rw [hw1, hbx]
        clear hw1 hbx hB1
        go_big_region
        go_wp2_with fail
        rw [← HM.out]
        exact ⟨by rw [Hb.out]; rfl, HX1.out.drew⟩
      · have Hb : Hid (r.log.yg u = false) := Lib.hid (decide_eq_false fun ⟨_, _, e⟩ => hy e)
        clear ht
        go_enter Try.func75, Try.ntmps75
        go_wp2_with fail
        obtain ⟨bx, hbx⟩ : ∃ bx, w.heap.size = bx := ⟨_, rfl⟩
        obtain ⟨w1, hw1⟩ : ∃ w1, w.alloc (.cells #[.int .i64 u.tag, .int .i64 u.a, .int .i64 u.b, .string u.text, .int .i64 u.man, .int .i64 u.exp] 33) = w1 := ⟨_, rfl⟩
        have HX1 : Hid (Ext w w1) := Lib.hid (by rw [← hw1]; exact (Ext.refl w).alloc _)
        have hB1 : Blk w1 bx #[.int .i64 u.tag, .int .i64 u.a, .int .i64 u.b, .string u.text, .int .i64 u.man, .int .i64 u.exp] 33 := by rw [← hw1, ← hbx]; exact Blk.new w _ _
        have b0 : w1.cell? ⟨bx, 0, none⟩ = some (.int .i64 u.tag) := (hB1.cell 0).trans rfl
        have b1 : w1.cell? ⟨bx, 0 + 1, none⟩ = some (.int .i64 u.a) := (hB1.cell 1).trans rfl
        have y0 : w1.cell? ⟨r.rp, 0, none⟩ = some (.int .i64 r.Y) := (h.ext HX1.out).c0
        rw [hw1, hbx]
        clear hw1 hbx hB1
        have hy2 : ¬ u.a ≤ r.Y := by omega
        go_big_region
        go_wp2_with fail
        rw [← HM.out]
        exact ⟨by rw [Hb.out], HX1.out.drew⟩
    · have Hb : Hid (r.log.yg u = false) := Lib.hid (decide_eq_false fun ⟨_, e, _⟩ => ha e)
      clear ht
      go_enter Try.func75, Try.ntmps75
      go_wp2_with fail
      obtain ⟨bx, hbx⟩ : ∃ bx, w.heap.size = bx := ⟨_, rfl⟩
      obtain ⟨w1, hw1⟩ : ∃ w1, w.alloc (.cells #[.int .i64 u.tag, .int .i64 u.a, .int .i64 u.b, .string u.text, .int .i64 u.man, .int .i64 u.exp] 33) = w1 := ⟨_, rfl⟩
      have HX1 : Hid (Ext w w1) := Lib.hid (by rw [← hw1]; exact (Ext.refl w).alloc _)
      have hB1 : Blk w1 bx #[.int .i64 u.tag, .int .i64 u.a, .int .i64 u.b, .string u.text, .int .i64 u.man, .int .i64 u.exp] 33 := by rw [← hw1, ← hbx]; exact Blk.new w _ _
      have b0 : w1.cell? ⟨bx, 0, none⟩ = some (.int .i64 u.tag) := (hB1.cell 0).trans rfl
      have b1 : w1.cell? ⟨bx, 0 + 1, none⟩ = some (.int .i64 u.a) := (hB1.cell 1).trans rfl
      have y0 : w1.cell? ⟨r.rp, 0, none⟩ = some (.int .i64 r.Y) := (h.ext HX1.out).c0
      rw [hw1, hbx]
      clear hw1 hbx hB1
      have ha2 : ¬ 0 < u.a := by omega
      go_big_region
      go_wp2_with fail
      rw [← HM.out]
      exact ⟨by rw [Hb.out], HX1.out.drew⟩
  · have ht' : (u.tag == 1) = false := by simpa using ht
    have Hb : Hid (r.log.yg u = false) := Lib.hid (decide_eq_false fun ⟨e, _, _⟩ => ht e)
    clear ht
    go_enter Try.func75, Try.ntmps75
    go_wp2_with fail
    obtain ⟨bx, hbx⟩ : ∃ bx, w.heap.size = bx := ⟨_, rfl⟩
    obtain ⟨w1, hw1⟩ : ∃ w1, w.alloc (.cells #[.int .i64 u.tag, .int .i64 u.a, .int .i64 u.b, .string u.text, .int .i64 u.man, .int .i64 u.exp] 33) = w1 := ⟨_, rfl⟩
    have HX1 : Hid (Ext w w1) := Lib.hid (by rw [← hw1]; exact (Ext.refl w).alloc _)
    have hB1 : Blk w1 bx #[.int .i64 u.tag, .int .i64 u.a, .int .i64 u.b, .string u.text, .int .i64 u.man, .int .i64 u.exp] 33 := by rw [← hw1, ← hbx]; exact Blk.new w _ _
    have b0 : w1.cell? ⟨bx, 0, none⟩ = some (.int .i64 u.tag) := (hB1.cell 0).trans rfl
    have b1 : w1.cell? ⟨bx, 0 + 1, none⟩ = some (.int .i64 u.a) := (hB1.cell 1).trans rfl
    have y0 : w1.cell? ⟨r.rp, 0, none⟩ = some (.int .i64 r.Y) := (h.ext HX1.out).c0
    rw [hw1, hbx]
    clear hw1 hbx hB1
    go_big_region
    go_wp2_with fail
    rw [← HM.out]
    exact ⟨by rw [Hb.out]; rfl, HX1.out.drew⟩

/-! ### rights -/
set_option maxRecDepth 100000 in
set_option maxHeartbeats 4000000 in
theorem Rrights_any {w : World} {base : Nat} {r : RH} (h : RRep w base r) {v : Value} {ws : List Wd} (hr : RdW w v ws) (hl : ws.length ≤ 2000000) : Calls Try.prog 95 #[.pointer (some ⟨r.rp, 0, none⟩), v] w (BoolR (!ws.any r.log.bad) w) := by
  have HR := Lib.hid hr
  have H := Lib.hid h
  generalize hM : BoolR (!ws.any r.log.bad) w = M
  have HM := Lib.hid hM
  obtain ⟨va, vc, rfl, -⟩ := hr
  clear hM
  go_enter Try.func95, Try.ntmps95
  go_wp2_with fail
  go_loopw [5] (fun i wr => ∃ k : Nat, k ≤ ws.length ∧ i = .int .i64 k ∧ Hid (∀ u ∈ ws.take k, r.log.bad u = false) ∧ Hid (Ext w wr)) (fun i wr => ws.length - (intOf i).toNat)
  case atStart => exact ⟨0, Nat.zero_le _, rfl, Lib.hid (by simp), Lib.hid (Ext.refl _)⟩
  case round =>
    obtain ⟨k, hk, rfl, HT, HX⟩ := hrel
    by_cases hlt : k < ws.length
    · obtain ⟨u, hu⟩ : ∃ u, ws[k]? = some u := ⟨_, List.getElem?_eq_getElem hlt⟩
      obtain ⟨ad, rfl⟩ := HR.out.some (by rintro e; rw [e] at hu; simp at hu)
      obtain ⟨A, hA⟩ : ∃ A, ad.add (k * 6) = A := ⟨_, rfl⟩
      obtain ⟨c0, c1, c2, c3, c4, c5⟩ := (HR.out.ext HX.out).six hu hA
      have Hu := Lib.hid hu
      have HC := Lib.hid (Rright_any (H.out.ext HX.out) u)
      unfold Wd.val Wd.cells at HC
      clear hu
      go_wp2_with fail
      refine HC.out.mono ?_
      rintro e w2 ⟨rfl, hx2⟩
      have HX2 := Lib.hid (HX.out.trans hx2)
      clear hx2 c0 c1 c2 c3 c4 c5 HC
      by_cases hb : r.log.bad u = true
      · have Hb : Hid (ws.any r.log.bad = true) := Lib.hid (List.any_eq_true.2 ⟨u, List.mem_of_getElem? Hu.out, hb⟩)
        rw [hb]
        clear hb
        go_wp2_with fail
        rw [← HM.out]
        exact ⟨by rw [Hb.out]; rfl, HX2.out⟩
      · have hb' : r.log.bad u = false := by simpa using hb
        have Hb := Lib.hid hb'
        rw [hb']
        clear hb hb'
        go_wp2_with fail
        exact ⟨⟨k + 1, by omega, by simp, Lib.hid (by
          rw [List.take_add_one, Hu.out]
          intro c hc
          rcases List.mem_append.1 hc with hc | hc
          · exact HT.out c hc
          · simp at hc; rw [hc]; exact Hb.out), HX2⟩, by simp only [intOf]; omega⟩
    · have hkn : k = ws.length := by omega
      subst hkn
      have Hb : Hid (ws.any r.log.bad = false) := Lib.hid (List.any_eq_false.2 fun u hu => by rw [HT.out u (by rw [List.take_length]; exact hu)]; simp)
      go_wp2_with fail
      rw [← HM.out]
      exact ⟨by rw [Hb.out]; rfl, HX.out⟩

/-! ### Free -/
set_option maxRecDepth 100000 in
set_option maxHeartbeats 4000000 in
theorem RFree_any {w : World} {base : Nat} {r : RH} (h : RRep w base r) : Calls Try.prog 58 #[.pointer (some ⟨r.rp, 0, none⟩)] w fun e w' => e = .returned (.tuple #[.int .i64 (r.Y - bused r.log.yb), .int .i64 (r.O - bused r.log.ob)]) ∧ Ext w w' := by
  have c0 := h.c0
  have c1 : w.cell? ⟨r.rp, 0 + 1, none⟩ = some (.int .i64 r.O) := h.c1
  have c2 : w.cell? ⟨r.rp, 0 + 2, none⟩ = some r.ya := h.c2
  have c3 : w.cell? ⟨r.rp, 0 + 3, none⟩ = some r.oa := h.c3
  have Hy := Lib.hid h.rdy
  have Ho := Lib.hid h.rdo
  have hly : r.log.yb.length ≤ 1000000 := Nat.le_trans h.ylen (by omega)
  have hlo : r.log.ob.length ≤ 1000000 := Nat.le_trans h.olen (by omega)
  have u1 : bused r.log.yb ≤ r.Y := h.ok.uy
  have u2 : bused r.log.ob ≤ r.O := h.ok.uo
  have u3 := h.Y1; have u4 := h.O1
  have u5 := bused_nonneg r.log.yb; have u6 := bused_nonneg r.log.ob
  have u7 : bused r.log.yb ≤ 1000000 := by omega
  have u8 : bused r.log.ob ≤ 1000000 := by omega
  go_enter Try.func58, Try.ntmps58
  go_wp2_with fail
  go_quiet ((go_at_call 73; first | ((with_reducible refine Calls.quiet_of_same (Rused_same (v := r.ya) (bs := r.log.yb) ?_ hly u7)); exact Hy.out.ext ((Ext.refl w).drewN _)) | ((with_reducible refine Calls.quiet_of_same (Rused_same (v := r.oa) (bs := r.log.ob) ?_ hlo u8)); exact Ho.out.ext ((Ext.refl w).drewN _))))
  go_wp2_with fail
  go_ret2
  exact ⟨rfl, (Ext.refl w).drewN _⟩

/-! ### New -/
set_option maxHeartbeats 1000000 in
theorem RNew_bad (y o : Int) (hb : y < 0 ∨ 100000 < y ∨ o < 0 ∨ 100000 < o) (w : World) :
    Calls Try.prog 30 #[.int .i64 y, .int .i64 o] w fun e w' => e = .returned (.tuple #[.agg #[.int .i64 0, .int .i64 0, .slice none 0 0, .slice none 0 0, .slice none 0 0], .int .i64 2]) ∧ Ext w w' := by
  generalize hM : (fun (e : Ending) (w' : World) => e = .returned (.tuple #[.agg #[.int .i64 0, .int .i64 0, .slice none 0 0, .slice none 0 0, .slice none 0 0], .int .i64 2]) ∧ Ext w w') = M
  have HM := Lib.hid hM
  clear hM
  go_enter Try.func30, Try.ntmps30
  go_wp2_with fail
  all_goals (
    refine bodyPost_ret ((results_cell_tmp rfl _ _ _).trans (by
      show ((asAddr (Value.pointer (some ⟨w.heap.size, 0, none⟩))).run Try.prog _).andThen _ = _
      rw [show (asAddr (Value.pointer (some ⟨w.heap.size, 0, none⟩))) = (pure ⟨w.heap.size, 0, none⟩ : Sem Addr) from rfl, Sem.run_pure, Result.andThen_ok, run_loadVar_row _ w.heap.size 69 69 _ (0, 0) _ (Blk.new w _ _) Try.underlying69 rfl (by kernel_rfl), Result.andThen_ok])) rfl ?_
    rw [← HM.out]
    exact ⟨rfl, (Ext.refl w).alloc _⟩)
theorem RNew_good (y o : Int) (hy0 : 0 ≤ y) (hy1 : y ≤ 100000) (ho0 : 0 ≤ o) (ho1 : o ≤ 100000) (w : World) :
    Calls Try.prog 30 #[.int .i64 y, .int .i64 o] w fun e w' => e = .returned (.tuple #[.agg #[.int .i64 y, .int .i64 o, .slice none 0 0, .slice none 0 0, .slice none 0 0], .int .i64 0]) ∧ Ext w w' := by
  generalize hM : (fun (e : Ending) (w' : World) => e = .returned (.tuple #[.agg #[.int .i64 y, .int .i64 o, .slice none 0 0, .slice none 0 0, .slice none 0 0], .int .i64 0]) ∧ Ext w w') = M
  have HM := Lib.hid hM
  clear hM
  go_enter Try.func30, Try.ntmps30
  go_wp2_with fail
  all_goals (
    refine bodyPost_ret ((results_cell_tmp rfl _ _ _).trans (by
      show ((asAddr (Value.pointer (some ⟨w.heap.size, 0, none⟩))).run Try.prog _).andThen _ = _
      rw [show (asAddr (Value.pointer (some ⟨w.heap.size, 0, none⟩))) = (pure ⟨w.heap.size, 0, none⟩ : Sem Addr) from rfl, Sem.run_pure, Result.andThen_ok, run_loadVar_row _ w.heap.size 69 69 _ (0, 0) _ (Blk.new w _ _) Try.underlying69 rfl (by kernel_rfl), Result.andThen_ok])) rfl ?_
    rw [← HM.out]
    exact ⟨rfl, (Ext.refl w).alloc _⟩)
end Go.Proofs.Ytikigppfnhilhaa
