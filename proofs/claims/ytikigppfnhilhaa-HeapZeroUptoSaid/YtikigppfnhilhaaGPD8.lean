/- Store: the walk, way by way. Store: the ways that write. -/
import Derived.Test.YtikigppfnhilhaaGPD7
/- Store: the walk, way by way. -/
namespace Go.Proofs.Ytikigppfnhilhaa
open Go.RowKit Go.Instr
set_option linter.unusedVariables false
set_option linter.unusedSimpArgs false

def PH.storeE (x : PH) (k i : Int) (u : Wd) : Int :=
  match x.find k with
  | none => 5
  | some y => if 0 ≤ i ∧ i < y.b.ws.length then (if refW u = 0 then 0 else match x.find (refW u) with | none => 1 | some _ => 0) else 3
def PH.marks (x : PH) (y : PB) (u : Wd) : Bool := decide (refW u ≠ 0) && decide (¬ y.b.at_ ≤ x.Y) && (match x.find (refW u) with | none => false | some t => decide (t.b.at_ ≤ x.Y))
def PH.stored (x : PH) (k i : Int) (u : Wd) : PH :=
  match x.find k with
  | none => x
  | some y => { x.setWord y.p i.toNat u with R := if x.marks y u then insR k x.R else x.R }

/-- The frame of Store behind 'b.words[i] = w', and what is known there. -/
theorem store_end {w w1 w2 : World} {base : Nat} {x : PH} (h : HRep w1 base x) (hk : Keeps x.fp w w1) {y : PB} (hy : y ∈ x.all) {i : Nat} (hi : i < y.b.ws.length) (u : Wd)
    (hw : w2 = (putWord w1 y.arr i u).drew) : HRep w2 base (x.setWord y.p i u) ∧ Keeps x.fp w w2 := by
  subst hw
  have ha : x.fp y.arr := .inr (.inr (.inr (.inr (.inr (.inr (List.mem_map.2 ⟨y, hy, rfl⟩))))))
  exact ⟨(h.setWord hy i u ((h.pbs y hy).wo.word i u hi) fun k _ hne => putWord_heap w1 y.arr i u k hne).drew, (hk.putWord (.inl ha) i u).drew⟩

section
variable {w : World} {base : Nat} {x : PH}
set_option maxHeartbeats 400000 in
theorem Store_none (h : HRep w base x) (k i : Int) (u : Wd) (hf : x.find k = none) :
    Calls Try.prog 19 #[.pointer (some ⟨x.hp, 0, none⟩), .int .i64 k, .int .i64 i, u.val] w fun e w' => e = .returned (.int .i64 5) ∧ Ext w w' := by
  have Hf := Lib.hid hf; clear hf
  unfold Wd.val Wd.cells
  go_enter Try.func19, Try.ntmps19
  go_wp2_with (go_at_call 40; refine (hword_none (h.alloc _) i Hf.out).mono ?_; rintro e w' ⟨rfl, rfl⟩)
  go_ret
  exact ⟨rfl, (by repeat' (first | exact Keeps.refl _ _ | refine Keeps.drewN ?_ _ | refine Keeps.drew ?_ | refine Keeps.alloc ?_ _ | refine Keeps.setCell ?_ (.inr (by simp)) _))⟩
set_option maxHeartbeats 400000 in
theorem Store_nil (w : World) (k i : Int) (u : Wd) :
    Calls Try.prog 19 #[.pointer none, .int .i64 k, .int .i64 i, u.val] w fun e w' => e = .returned (.int .i64 5) ∧ Ext w w' := by
  unfold Wd.val Wd.cells
  go_enter Try.func19, Try.ntmps19
  go_wp2_with (go_at_call 40; refine (hword_nil k i _).mono ?_; rintro e w' ⟨rfl, rfl⟩)
  go_ret
  exact ⟨rfl, (by repeat' (first | exact Keeps.refl _ _ | refine Keeps.drewN ?_ _ | refine Keeps.drew ?_ | refine Keeps.alloc ?_ _ | refine Keeps.setCell ?_ (.inr (by simp)) _))⟩
set_option maxHeartbeats 400000 in
theorem Store_out (h : HRep w base x) (k i : Int) (u : Wd) {y : PB} (hf : x.find k = some y) (hi : ¬ (0 ≤ i ∧ i < y.b.ws.length)) :
    Calls Try.prog 19 #[.pointer (some ⟨x.hp, 0, none⟩), .int .i64 k, .int .i64 i, u.val] w fun e w' => e = .returned (.int .i64 3) ∧ Ext w w' := by
  have Hf := Lib.hid hf; clear hf
  have Hi := Lib.hid hi; clear hi
  unfold Wd.val Wd.cells
  go_enter Try.func19, Try.ntmps19
  go_wp2_with (go_at_call 40; refine (hword_out (h.alloc _) i Hf.out Hi.out).mono ?_; rintro e w' ⟨rfl, rfl⟩)
  go_ret
  exact ⟨rfl, (by repeat' (first | exact Keeps.refl _ _ | refine Keeps.drewN ?_ _ | refine Keeps.drew ?_ | refine Keeps.alloc ?_ _ | refine Keeps.setCell ?_ (.inr (by simp)) _))⟩
set_option maxHeartbeats 400000 in
theorem Store_arg (h : HRep w base x) (k : Int) (i : Nat) (u : Wd) {y : PB} (hf : x.find k = some y) (hi : i < y.b.ws.length) (hu : refW u ≠ 0) (ht : x.find (refW u) = none) :
    Calls Try.prog 19 #[.pointer (some ⟨x.hp, 0, none⟩), .int .i64 k, .int .i64 i, u.val] w fun e w' => e = .returned (.int .i64 1) ∧ Ext w w' := by
  have hi' : (i : Int) < y.b.ws.length := by omega
  have h0' : 0 ≤ (i : Int) := by omega
  have hr : ∀ W, Gives 41 #[u.val] W (.int .i64 (refW u)) := fun W => refers_any u W
  have Hr := Lib.hid hr; clear hr
  generalize refW u = t at *
  have hu' : (t != 0) = true := by simpa using hu
  have Hf := Lib.hid hf; clear hf
  have Ht := Lib.hid ht; clear ht
  unfold Wd.val Wd.cells at *
  go_enter Try.func19, Try.ntmps19
  go_wp2_with (go_at_call 40; refine (hword_in (h.alloc _) (i : Int) Hf.out h0' hi').mono ?_; rintro e w' ⟨rfl, rfl⟩)
  refine (Hr.out _).mono ?_
  rintro e w1 ⟨rfl, hx0⟩
  go_wp2_with (go_at_call 42; refine (block_none ((h.alloc _).ext hx0) Ht.out).mono ?_; rintro e w' ⟨rfl, rfl⟩)
  go_ret
  exact ⟨rfl, ((Ext.refl w).alloc _).trans hx0⟩
end
end Go.Proofs.Ytikigppfnhilhaa
/- Store: the ways that write. -/
namespace Go.Proofs.Ytikigppfnhilhaa
open Go.RowKit Go.Instr
set_option linter.unusedVariables false
set_option linter.unusedSimpArgs false

section
variable {w : World} {base : Nat} {x : PH}
/-- What the last statement of Store wants. -/
structure StoreAt (w : World) (bx : Nat) (y : PB) (i : Nat) (u : Wd) : Prop where
  b0 : w.cell? ⟨bx, 0, none⟩ = some (.int .i64 u.tag)
  b1 : w.cell? ⟨bx, 1, none⟩ = some (.int .i64 u.a)
  b2 : w.cell? ⟨bx, 2, none⟩ = some (.int .i64 u.b)
  b3 : w.cell? ⟨bx, 3, none⟩ = some (.string u.text)
  b4 : w.cell? ⟨bx, 4, none⟩ = some (.int .i64 u.man)
  b5 : w.cell? ⟨bx, 5, none⟩ = some (.int .i64 u.exp)
  h2 : w.cell? ⟨y.p, 2, none⟩ = some (.slice (some ⟨y.arr, 0, none⟩) y.b.ws.length y.b.ws.length)
  c : ∀ j, j < 6 → ∃ v, w.cell? ⟨y.arr, i * 6 + j, none⟩ = some v
  fz : ∀ j, w.frozen? ⟨y.arr, j, none⟩ = false
theorem StoreAt.mk' {w0 w1 : World} {c : Array Value} (hx : Ext (w0.alloc (.cells c 33)) w1) {u : Wd} (hc : c = u.cells.toArray) {y : PB} (hy : PBlk w1 y) {i : Nat} (hi : i < y.b.ws.length) : StoreAt w1 w0.heap.size y i u := by
  have hb := fun j => cell_newE hx j
  subst hc
  have hcs := fun j hj => (hy.wo.cell (i * 6 + j)).trans (flat_get y.b.ws i y.b.ws[i] (by simp [hi]) j hj)
  refine ⟨hb 0, hb 1, hb 2, hb 3, hb 4, hb 5, (hy.st.cell 2).trans rfl, fun j hj => ?_, fun j => hy.wo.frozen j⟩
  have : j < y.b.ws[i].cells.length := by simp [Wd.cells]; omega
  exact ⟨y.b.ws[i].cells[j], by rw [hcs j hj]; simp [this]⟩

theorem cell_putObj {w : World} {r : Nat} {es : Array MapEntry} {c : Nat} (hm : w.heap[r]? = some (.map es c)) (o : Obj) {a : Addr} {v : Value} (h : w.cell? a = some v) : (w.putObj r o).cell? a = some v := by
  have hne : a.block ≠ r := by
    intro e
    unfold World.cell? at h
    rw [e, hm] at h; cases h
  rw [← h]
  refine World.cell?_of_block ?_
  simp only [World.putObj]; rw [Array.getElem?_setIfInBounds_ne (Ne.symm hne)]
theorem frozen_putObj_map {w : World} {r : Nat} (es' : Array MapEntry) (c' : Nat) {a : Addr} (h : w.frozen? a = false) : (w.putObj r (.map es' c')).frozen? a = false := by
  by_cases hne : a.block = r
  · subst hne
    unfold World.frozen? World.putObj
    by_cases hlt : a.block < w.heap.size
    · simp [Array.getElem?_setIfInBounds_self_of_lt hlt]
    · rw [show (w.heap.setIfInBounds a.block (.map es' c'))[a.block]? = none from by simp; omega]
  · rw [← h]
    refine World.frozen?_of_block ?_
    simp only [World.putObj]; rw [Array.getElem?_setIfInBounds_ne (Ne.symm hne)]
theorem StoreAt.putObj {w : World} {bx i : Nat} {y : PB} {u : Wd} (h : StoreAt w bx y i u) {r : Nat} {es : Array MapEntry} {c : Nat} (hm : w.heap[r]? = some (.map es c)) (es' : Array MapEntry) (c' : Nat) : StoreAt (w.putObj r (.map es' c')) bx y i u :=
  ⟨cell_putObj hm _ h.b0, cell_putObj hm _ h.b1, cell_putObj hm _ h.b2, cell_putObj hm _ h.b3, cell_putObj hm _ h.b4, cell_putObj hm _ h.b5, cell_putObj hm _ h.h2,
   fun j hj => let ⟨v, hv⟩ := h.c j hj; ⟨v, cell_putObj hm _ hv⟩, fun j => frozen_putObj_map es' c' (h.fz j)⟩

set_option maxHeartbeats 400000 in
theorem Store_plain (h : HRep w base x) (k : Int) (i : Nat) (u : Wd) {y : PB} (hf : x.find k = some y) (hi : i < y.b.ws.length) (hu : refW u = 0) :
    Calls Try.prog 19 #[.pointer (some ⟨x.hp, 0, none⟩), .int .i64 k, .int .i64 i, u.val] w fun e w' => e = .returned (.int .i64 0) ∧ HRep w' base (x.setWord y.p i u) ∧ Keeps x.fp w w' := by
  have hi' : (i : Int) < y.b.ws.length := by omega
  have h0' : 0 ≤ (i : Int) := by omega
  have hr : ∀ W, Gives 41 #[u.val] W (.int .i64 0) := fun W => by rw [← hu]; exact refers_any u W
  have Hr := Lib.hid hr; clear hr hu
  have Hf := Lib.hid hf; clear hf
  unfold Wd.val Wd.cells at *
  go_enter Try.func19, Try.ntmps19
  go_wp2_with (go_at_call 40; refine (hword_in (h.alloc _) (i : Int) Hf.out h0' hi').mono ?_; rintro e w' ⟨rfl, rfl⟩)
  refine (Hr.out _).mono ?_
  rintro e w1 ⟨rfl, hx0⟩
  have h1 := (h.alloc _).ext hx0
  have H1 := Lib.hid ((((Ext.refl w).alloc _).trans hx0).mono (S' := x.fp) fun _ _ => False.elim)
  obtain ⟨b0, b1, b2, b3, b4, b5, h2, hc, fz⟩ := StoreAt.mk' hx0 (u := u) rfl (h1.pb Hf.out) hi
  obtain ⟨v0, c0⟩ := hc 0 (by omega)
  obtain ⟨v1, c1⟩ := hc 1 (by omega)
  obtain ⟨v2, c2⟩ := hc 2 (by omega)
  obtain ⟨v3, c3⟩ := hc 3 (by omega)
  obtain ⟨v4, c4⟩ := hc 4 (by omega)
  obtain ⟨v5, c5⟩ := hc 5 (by omega)
  rw [Nat.add_zero] at c0
  clear hc hx0 h
  go_wp2
  go_region
  go_wp2
  go_ret
  exact ⟨rfl, store_end h1 H1.out (PH.find_mem Hf.out).1 hi u rfl⟩
set_option maxHeartbeats 400000 in
theorem Store_young (h : HRep w base x) (k : Int) (i : Nat) (u : Wd) {y : PB} (hf : x.find k = some y) (hi : i < y.b.ws.length) (hu : refW u ≠ 0) {t : PB} (ht : x.find (refW u) = some t) (hy : y.b.at_ ≤ x.Y) :
    Calls Try.prog 19 #[.pointer (some ⟨x.hp, 0, none⟩), .int .i64 k, .int .i64 i, u.val] w fun e w' => e = .returned (.int .i64 0) ∧ HRep w' base (x.setWord y.p i u) ∧ Keeps x.fp w w' := by
  have hi' : (i : Int) < y.b.ws.length := by omega
  have h0' : 0 ≤ (i : Int) := by omega
  have hr : ∀ W, Gives 41 #[u.val] W (.int .i64 (refW u)) := fun W => refers_any u W
  have Hr := Lib.hid hr; clear hr
  generalize refW u = q at *
  have hu' : (q != 0) = true := by simpa using hu
  have hy' : decide (y.b.at_ ≤ x.Y) = true := by simpa using hy
  have Hf := Lib.hid hf; clear hf
  have Ht := Lib.hid ht; clear ht
  unfold Wd.val Wd.cells at *
  go_enter Try.func19, Try.ntmps19
  go_wp2_with (go_at_call 40; refine (hword_in (h.alloc _) (i : Int) Hf.out h0' hi').mono ?_; rintro e w' ⟨rfl, rfl⟩)
  refine (Hr.out _).mono ?_
  rintro e w1 ⟨rfl, hx0⟩
  go_wp2_with (go_at_call 42; refine (block_some ((h.alloc _).ext hx0) Ht.out).mono ?_; rintro e w' ⟨rfl, rfl⟩)
  refine (isYoung_any ((h.alloc _).ext hx0) (((h.alloc _).ext hx0).pb Hf.out)).mono ?_
  rintro e w' ⟨rfl, n, rfl⟩
  have hx1 := hx0.drewN n
  clear hx0
  generalize w1.drewN n = w2 at hx1 ⊢
  have h2 := (h.alloc _).ext hx1
  have H2 := Lib.hid ((((Ext.refl w).alloc _).trans hx1).mono (S' := x.fp) fun _ _ => False.elim)
  obtain ⟨b0, b1, b2, b3, b4, b5, g2, hc, fz⟩ := StoreAt.mk' hx1 (u := u) rfl (h2.pb Hf.out) hi
  obtain ⟨v0, c0⟩ := hc 0 (by omega)
  obtain ⟨v1, c1⟩ := hc 1 (by omega)
  obtain ⟨v2, c2⟩ := hc 2 (by omega)
  obtain ⟨v3, c3⟩ := hc 3 (by omega)
  obtain ⟨v4, c4⟩ := hc 4 (by omega)
  obtain ⟨v5, c5⟩ := hc 5 (by omega)
  rw [Nat.add_zero] at c0
  clear hc h
  go_wp2
  go_region
  go_wp2
  go_ret
  exact ⟨rfl, store_end h2 H2.out (PH.find_mem Hf.out).1 hi u rfl⟩
set_option maxHeartbeats 400000 in
theorem Store_old (h : HRep w base x) (k : Int) (i : Nat) (u : Wd) {y : PB} (hf : x.find k = some y) (hi : i < y.b.ws.length) (hu : refW u ≠ 0) {t : PB} (ht : x.find (refW u) = some t) (hy : ¬ y.b.at_ ≤ x.Y) (hty : ¬ t.b.at_ ≤ x.Y) :
    Calls Try.prog 19 #[.pointer (some ⟨x.hp, 0, none⟩), .int .i64 k, .int .i64 i, u.val] w fun e w' => e = .returned (.int .i64 0) ∧ HRep w' base (x.setWord y.p i u) ∧ Keeps x.fp w w' := by
  have hi' : (i : Int) < y.b.ws.length := by omega
  have h0' : 0 ≤ (i : Int) := by omega
  have hr : ∀ W, Gives 41 #[u.val] W (.int .i64 (refW u)) := fun W => refers_any u W
  have Hr := Lib.hid hr; clear hr
  generalize refW u = q at *
  have hu' : (q != 0) = true := by simpa using hu
  have hy' : decide (y.b.at_ ≤ x.Y) = false := by simpa using hy
  have hty' : decide (t.b.at_ ≤ x.Y) = false := by simpa using hty
  have Hf := Lib.hid hf; clear hf
  have Ht := Lib.hid ht; clear ht
  unfold Wd.val Wd.cells at *
  go_enter Try.func19, Try.ntmps19
  go_wp2_with (go_at_call 40; refine (hword_in (h.alloc _) (i : Int) Hf.out h0' hi').mono ?_; rintro e w' ⟨rfl, rfl⟩)
  refine (Hr.out _).mono ?_
  rintro e w1 ⟨rfl, hx0⟩
  go_wp2_with (go_at_call 42; refine (block_some ((h.alloc _).ext hx0) Ht.out).mono ?_; rintro e w' ⟨rfl, rfl⟩)
  refine (isYoung_any ((h.alloc _).ext hx0) (((h.alloc _).ext hx0).pb Hf.out)).mono ?_
  rintro e w' ⟨rfl, n, rfl⟩
  have hx1 := hx0.drewN n
  clear hx0
  generalize w1.drewN n = w2 at hx1 ⊢
  go_wp2_with fail
  refine (isYoung_any ((h.alloc _).ext hx1) (((h.alloc _).ext hx1).pb Ht.out)).mono ?_
  rintro e w' ⟨rfl, n', rfl⟩
  have hx2 := hx1.drewN n'
  clear hx1
  generalize w2.drewN n' = w3 at hx2 ⊢
  have hx1 := hx2
  clear hx2
  have h2 := (h.alloc _).ext hx1
  have H2 := Lib.hid ((((Ext.refl w).alloc _).trans hx1).mono (S' := x.fp) fun _ _ => False.elim)
  obtain ⟨b0, b1, b2, b3, b4, b5, g2, hc, fz⟩ := StoreAt.mk' hx1 (u := u) rfl (h2.pb Hf.out) hi
  obtain ⟨v0, c0⟩ := hc 0 (by omega)
  obtain ⟨v1, c1⟩ := hc 1 (by omega)
  obtain ⟨v2, c2⟩ := hc 2 (by omega)
  obtain ⟨v3, c3⟩ := hc 3 (by omega)
  obtain ⟨v4, c4⟩ := hc 4 (by omega)
  obtain ⟨v5, c5⟩ := hc 5 (by omega)
  rw [Nat.add_zero] at c0
  clear hc h
  go_wp2
  go_region
  go_wp2
  go_ret
  exact ⟨rfl, store_end h2 H2.out (PH.find_mem Hf.out).1 hi u rfl⟩
set_option maxHeartbeats 400000 in
theorem Store_mark (h : HRep w base x) (k : Int) (i : Nat) (u : Wd) {y : PB} (hf : x.find k = some y) (hi : i < y.b.ws.length) (hu : refW u ≠ 0) {t : PB} (ht : x.find (refW u) = some t) (hy : ¬ y.b.at_ ≤ x.Y) (hty : t.b.at_ ≤ x.Y) :
    Calls Try.prog 19 #[.pointer (some ⟨x.hp, 0, none⟩), .int .i64 k, .int .i64 i, u.val] w fun e w' => e = .returned (.int .i64 0) ∧ HRep w' base { x.setWord y.p i u with R := insR k x.R } ∧ Keeps x.fp w w' := by
  have hi' : (i : Int) < y.b.ws.length := by omega
  have h0' : 0 ≤ (i : Int) := by omega
  have hr : ∀ W, Gives 41 #[u.val] W (.int .i64 (refW u)) := fun W => refers_any u W
  have Hr := Lib.hid hr; clear hr
  generalize refW u = q at *
  have hu' : (q != 0) = true := by simpa using hu
  have hy' : decide (y.b.at_ ≤ x.Y) = false := by simpa using hy
  have hty' : decide (t.b.at_ ≤ x.Y) = true := by simpa using hty
  have Hf := Lib.hid hf; clear hf
  have Ht := Lib.hid ht; clear ht
  unfold Wd.val Wd.cells at *
  go_enter Try.func19, Try.ntmps19
  go_wp2_with (go_at_call 40; refine (hword_in (h.alloc _) (i : Int) Hf.out h0' hi').mono ?_; rintro e w' ⟨rfl, rfl⟩)
  refine (Hr.out _).mono ?_
  rintro e w1 ⟨rfl, hx0⟩
  go_wp2_with (go_at_call 42; refine (block_some ((h.alloc _).ext hx0) Ht.out).mono ?_; rintro e w' ⟨rfl, rfl⟩)
  refine (isYoung_any ((h.alloc _).ext hx0) (((h.alloc _).ext hx0).pb Hf.out)).mono ?_
  rintro e w' ⟨rfl, n, rfl⟩
  have hx1 := hx0.drewN n
  clear hx0
  generalize w1.drewN n = w2 at hx1 ⊢
  go_wp2_with fail
  refine (isYoung_any ((h.alloc _).ext hx1) (((h.alloc _).ext hx1).pb Ht.out)).mono ?_
  rintro e w' ⟨rfl, n', rfl⟩
  have hx2 := hx1.drewN n'
  clear hx1
  generalize w2.drewN n' = w3 at hx2 ⊢
  have hx1 := hx2
  clear hx2
  have h2 := (h.alloc _).ext hx1
  have H2 := Lib.hid ((((Ext.refl w).alloc _).trans hx1).mono (S' := x.fp) fun _ _ => False.elim)
  obtain ⟨es, c, hm, he, hg⟩ := h2.rmap
  rcases hm with ⟨hm, _⟩ | ⟨r, hrv, hm⟩
  · exact absurd hm (h2.ok.rv (PH.find_mem Hf.out).1)
  obtain ⟨es', c', hrun, he', hg', -, -⟩ := run_mapUpdate_int (P := Try.prog) Try.underlying79 (q := .i64) Try.underlying3 r he k (.bool true)
  have Hrun := Lib.hid (hrun w3 hm)
  have h3 := h2.remember hrv he' hm hg hg'
  have H3 := Lib.hid (H2.out.putObj (r := r) (.inl (.inr (.inr (.inr (.inr (.inl hrv)))))) (.map es' c'))
  have c9 : w3.cell? ⟨x.hp, 9, none⟩ = some (.map (some r)) := by rw [h2.cell 9]; simp [PH.cells, hrv]
  have HS := Lib.hid ((StoreAt.mk' hx1 (u := u) rfl (h2.pb Hf.out) hi).putObj hm es' c')
  clear hrun hg hg' he he' hm hrv hx1 h h2
  go_wp2_with (at_mapUpdate; refine wpList_mapUpdate_at rfl _ _ _ _ rfl Hrun.out ?_; intro w4 hw4)
  rw [← hw4] at h3
  have H3 := Lib.hid H3.out
  rw [← hw4] at H3
  have HS' := HS.out
  rw [← hw4] at HS'
  clear hw4 HS Hrun c9
  obtain ⟨b0, b1, b2, b3, b4, b5, g2, hc, fz⟩ := HS'
  obtain ⟨v0, c0⟩ := hc 0 (by omega)
  obtain ⟨v1, c1⟩ := hc 1 (by omega)
  obtain ⟨v2, c2⟩ := hc 2 (by omega)
  obtain ⟨v3, c3⟩ := hc 3 (by omega)
  obtain ⟨v4, c4⟩ := hc 4 (by omega)
  obtain ⟨v5, c5⟩ := hc 5 (by omega)
  rw [Nat.add_zero] at c0
  clear hc
  go_wp2
  go_region
  all_goals go_wp2
  all_goals go_ret

  all_goals exact ⟨rfl, store_end h3 H3.out (PH.find_mem Hf.out).1 hi u rfl⟩
theorem Store_any (h : HRep w base x) (k i : Int) (u : Wd) :
    Calls Try.prog 19 #[.pointer (some ⟨x.hp, 0, none⟩), .int .i64 k, .int .i64 i, u.val] w fun e w' => e = .returned (.int .i64 (x.storeE k i u)) ∧ HRep w' base (if x.storeE k i u = 0 then x.stored k i u else x) ∧ Keeps x.fp w w' := by
  have hE : ∀ (n : Int) (R : Ending → World → Prop), (∀ e w', e = .returned (.int .i64 n) ∧ Ext w w' → R e w') → Calls Try.prog 19 #[.pointer (some ⟨x.hp, 0, none⟩), .int .i64 k, .int .i64 i, u.val] w (fun e w' => e = .returned (.int .i64 n) ∧ Ext w w') → Calls Try.prog 19 #[.pointer (some ⟨x.hp, 0, none⟩), .int .i64 k, .int .i64 i, u.val] w R :=
    fun n R hR hc => hc.mono fun e w' he => hR e w' he
  have hx : ∀ w', Ext w w' → Keeps x.fp w w' := fun w' hw => hw.mono fun _ _ => False.elim
  cases hf : x.find k with
  | none =>
    have hs : x.storeE k i u = 5 := by simp [PH.storeE, hf]
    rw [hs, if_neg (by decide)]
    exact hE 5 _ (fun e w' ⟨he, hw⟩ => ⟨he, h.ext hw, hx _ hw⟩) (Store_none h k i u hf)
  | some y =>
    by_cases hi : 0 ≤ i ∧ i < y.b.ws.length
    · obtain ⟨h0, h1⟩ := hi
      obtain ⟨n, rfl⟩ := Int.eq_ofNat_of_zero_le h0
      have hn : n < y.b.ws.length := by omega
      by_cases hu : refW u = 0
      · have hs : x.storeE k n u = 0 := by simp [PH.storeE, hf, hn, hu]
        have ht : x.stored k n u = x.setWord y.p n u := by simp [PH.stored, hf, PH.marks, hu, PH.setWord]
        rw [hs, if_pos rfl, ht]
        exact Store_plain h k n u hf hn hu
      · cases ht : x.find (refW u) with
        | none =>
          have hs : x.storeE k n u = 1 := by simp [PH.storeE, hf, hn, hu, ht]
          rw [hs, if_neg (by decide)]
          exact hE 1 _ (fun e w' ⟨he, hw⟩ => ⟨he, h.ext hw, hx _ hw⟩) (Store_arg h k n u hf hn hu ht)
        | some t =>
          have hs : x.storeE k n u = 0 := by simp [PH.storeE, hf, hn, ht]
          rw [hs, if_pos rfl]
          by_cases hy : y.b.at_ ≤ x.Y
          · have hst : x.stored k n u = x.setWord y.p n u := by simp [PH.stored, hf, PH.marks, hy, PH.setWord]
            rw [hst]
            exact Store_young h k n u hf hn hu ht hy
          · by_cases hty : t.b.at_ ≤ x.Y
            · have hst : x.stored k n u = { x.setWord y.p n u with R := insR k x.R } := by
                have hy' : x.Y < y.b.at_ := by omega
                simp [PH.stored, hf, PH.marks, hy', ht, hty, hu]
              rw [hst]
              exact Store_mark h k n u hf hn hu ht hy hty
            · have hst : x.stored k n u = x.setWord y.p n u := by
                have : x.Y < t.b.at_ := by omega
                simp [PH.stored, hf, PH.marks, ht, this, PH.setWord]; intros; omega
              rw [hst]
              exact Store_old h k n u hf hn hu ht hy hty
    · have hs : x.storeE k i u = 3 := by simp [PH.storeE, hf, if_neg hi]
      rw [hs, if_neg (by decide)]
      exact hE 3 _ (fun e w' ⟨he, hw⟩ => ⟨he, h.ext hw, hx _ hw⟩) (Store_out h k i u hf hi)
end
end Go.Proofs.Ytikigppfnhilhaa
