/- Store: the walk, way by way. -/
import Derived.Test.YtikigppfnhilhaaHW
namespace Go.Proofs.Ytikigppfnhilhaa
open Go.RowKit Go.Instr
set_option linter.unusedVariables false
set_option linter.unusedSimpArgs false

def PH.storeE (x : PH) (k i : Int) (u : Wd) : Int :=
  match x.find k with
  | none => 5
  | some y => if 0 ≤ i ∧ i < y.b.ws.length then (if refW u = 0 then 0 else match x.find (refW u) with | none => 1 | some _ => 0) else 3
def PH.marks (x : PH) (y : PB) (u : Wd) : Bool := decide (refW u ≠ 0) && decide (¬ y.b.at_ ≤ x.Y) && (match x.find (refW u) with | none => false | some t => decide (t.b.at_ ≤ x.Y))
def PH.stored (x : PH) (k i : Int) (u : Wd) : PH :=
  match x.find k with
  | none => x
  | some y => { x.setWord y.p i.toNat u with R := if x.marks y u then insR k x.R else x.R }

/-- The frame of Store behind 'b.words[i] = w', and what is known there. -/
theorem store_end {w w1 w2 : World} {base : Nat} {x : PH} (h : HRep w1 base x) (hk : Keeps x.fp w w1) {y : PB} (hy : y ∈ x.all) {i : Nat} (hi : i < y.b.ws.length) (u : Wd)
    (hw : w2 = (putWord w1 y.arr i u).drew) : HRep w2 base (x.setWord y.p i u) ∧ Keeps x.fp w w2 := by
  subst hw
  have ha : x.fp y.arr := .inr (.inr (.inr (.inr (.inr (.inr (List.mem_map.2 ⟨y, hy, rfl⟩))))))
  exact ⟨(h.setWord hy i u ((h.pbs y hy).wo.word i u hi) fun k _ hne => putWord_heap w1 y.arr i u k hne).drew, (hk.putWord (.inl ha) i u).drew⟩

section
variable {w : World} {base : Nat} {x : PH}
set_option maxHeartbeats 400000 in
theorem Store_none (h : HRep w base x) (k i : Int) (u : Wd) (hf : x.find k = none) :
    Calls Try.prog 19 #[.pointer (some ⟨x.hp, 0, none⟩), .int .i64 k, .int .i64 i, u.val] w fun e w' => e = .returned (.int .i64 5) ∧ Ext w w' := by
  have Hf := Lib.hid hf; clear hf
  unfold Wd.val Wd.cells
  go_enter Try.func19, Try.ntmps19
  go_wp2_with (go_at_call 40; refine (hword_none (h.alloc _) i Hf.out).mono ?_; rintro e w' ⟨rfl, rfl⟩)
  go_ret
  exact ⟨rfl, (by repeat' (first | exact Keeps.refl _ _ | refine Keeps.drewN ?_ _ | refine Keeps.drew ?_ | refine Keeps.alloc ?_ _ | refine Keeps.setCell ?_ (.inr (by simp)) _))⟩
set_option maxHeartbeats 400000 in
theorem Store_nil (w : World) (k i : Int) (u : Wd) :
    Calls Try.prog 19 #[.pointer none, .int .i64 k, .int .i64 i, u.val] w fun e w' => e = .returned (.int .i64 5) ∧ Ext w w' := by
  unfold Wd.val Wd.cells
  go_enter Try.func19, Try.ntmps19
  go_wp2_with (go_at_call 40; refine (hword_nil k i _).mono ?_; rintro e w' ⟨rfl, rfl⟩)
  go_ret
  exact ⟨rfl, (by repeat' (first | exact Keeps.refl _ _ | refine Keeps.drewN ?_ _ | refine Keeps.drew ?_ | refine Keeps.alloc ?_ _ | refine Keeps.setCell ?_ (.inr (by simp)) _))⟩
set_option maxHeartbeats 400000 in
theorem Store_out (h : HRep w base x) (k i : Int) (u : Wd) {y : PB} (hf : x.find k = some y) (hi : ¬ (0 ≤ i ∧ i < y.b.ws.length)) :
    Calls Try.prog 19 #[.pointer (some ⟨x.hp, 0, none⟩), .int .i64 k, .int .i64 i, u.val] w fun e w' => e = .returned (.int .i64 3) ∧ Ext w w' := by
  have Hf := Lib.hid hf; clear hf
  have Hi := Lib.hid hi; clear hi
  unfold Wd.val Wd.cells
  go_enter Try.func19, Try.ntmps19
  go_wp2_with (go_at_call 40; refine (hword_out (h.alloc _) i Hf.out Hi.out).mono ?_; rintro e w' ⟨rfl, rfl⟩)
  go_ret
  exact ⟨rfl, (by repeat' (first | exact Keeps.refl _ _ | refine Keeps.drewN ?_ _ | refine Keeps.drew ?_ | refine Keeps.alloc ?_ _ | refine Keeps.setCell ?_ (.inr (by simp)) _))⟩
set_option maxHeartbeats 400000 in
theorem Store_arg (h : HRep w base x) (k : Int) (i : Nat) (u : Wd) {y : PB} (hf : x.find k = some y) (hi : i < y.b.ws.length) (hu : refW u ≠ 0) (ht : x.find (refW u) = none) :
    Calls Try.prog 19 #[.pointer (some ⟨x.hp, 0, none⟩), .int .i64 k, .int .i64 i, u.val] w fun e w' => e = .returned (.int .i64 1) ∧ Ext w w' := by
  have hi' : (i : Int) < y.b.ws.length := by omega
  have h0' : 0 ≤ (i : Int) := by omega
  have hr : ∀ W, Gives 41 #[u.val] W (.int .i64 (refW u)) := fun W => refers_any u W
  have Hr := Lib.hid hr; clear hr
  generalize refW u = t at *
  have hu' : (t != 0) = true := by simpa using hu
  have Hf := Lib.hid hf; clear hf
  have Ht := Lib.hid ht; clear ht
  unfold Wd.val Wd.cells at *
  go_enter Try.func19, Try.ntmps19
  go_wp2_with (go_at_call 40; refine (hword_in (h.alloc _) (i : Int) Hf.out h0' hi').mono ?_; rintro e w' ⟨rfl, rfl⟩)
  refine (Hr.out _).mono ?_
  rintro e w1 ⟨rfl, hx0⟩
  go_wp2_with (go_at_call 42; refine (block_none ((h.alloc _).ext hx0) Ht.out).mono ?_; rintro e w' ⟨rfl, rfl⟩)
  go_ret
  exact ⟨rfl, ((Ext.refl w).alloc _).trans hx0⟩
end
end Go.Proofs.Ytikigppfnhilhaa
