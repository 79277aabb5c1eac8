/- The functions of the heap that only read. slices.Clone of words; lists of words that are read. -/
import Derived.Test.YtikigppfnhilhaaGPD2
import Derived.Deep.QuietTactic
import Derived.BigQuiet
import Derived.BigRegion
/- The functions of the heap that only read. -/
namespace Go.Proofs.Ytikigppfnhilhaa
open Go.RowKit Go.Instr
set_option linter.unusedVariables false
set_option linter.unusedSimpArgs false

/-- New blocks alone. -/
abbrev Ext (w w' : World) : Prop := Keeps (fun _ => False) w w'
/-- A call that returns v, and makes new blocks at most. -/
def Gives (f : FuncId) (args : Array Value) (w : World) (v : Value) : Prop := Calls Try.prog f args w fun e w' => e = .returned v ∧ Ext w w'
theorem Ext.refl (w : World) : Ext w w := Keeps.refl _ w
theorem Ext.heap {w w' : World} (h : Ext w w') (k : Nat) (hk : k < w.heap.size) : w'.heap[k]? = w.heap[k]? := h.block k hk id
theorem cell_newE {w w1 : World} {c : Array Value} {t : TypeId} (h : Ext (w.alloc (.cells c t)) w1) (i : Nat) : w1.cell? ⟨w.heap.size, i, none⟩ = c[i]? :=
  (h.blk (Blk.new w c t) id).cell i
theorem HRep.ext {w w' : World} {base : Nat} {x : PH} (h : HRep w base x) (hk : Ext w w') : HRep w' base x := h.kept hk fun _ _ => id
theorem Ext.cell {w w' : World} (h : Ext w w') {a : Addr} {v : Value} (hc : w.cell? a = some v) : w'.cell? a = some v :=
  (World.cell?_of_block (h.heap a.block (World.block_lt_of_cell? w a hc))).trans hc
theorem ret_bool {a b : Bool} (h : a = b) : Ending.returned (.bool a) = .returned (.bool b) := by rw [h]
theorem ret_int {k : IntKind} {a b : Int} (h : a = b) : Ending.returned (.int k a) = .returned (.int k b) := by rw [h]

def refW (x : Wd) : Int := if x.tag = 1 then x.a else 0

set_option maxHeartbeats 400000 in
theorem refers_no (x : Wd) (w : World) (h : x.tag ≠ 1) : Gives 41 #[x.val] w (.int .i64 (refW x)) := by
  have h1 : (x.tag != 1) = true := by simpa using h
  have hr : refW x = 0 := by simp [refW, h]
  have Hr := Lib.hid hr; clear hr
  unfold Wd.val Wd.cells
  go_enter Try.func41, Try.ntmps41
  go_wp2
  go_ret
  exact ⟨ret_int Hr.out.symm, (Ext.refl w).alloc _⟩

set_option maxHeartbeats 400000 in
theorem refers_yes (x : Wd) (w : World) (h : x.tag = 1) : Gives 41 #[x.val] w (.int .i64 (refW x)) := by
  have hr : refW x = x.a := by simp [refW, h]
  have Hr := Lib.hid hr; clear hr
  obtain ⟨t, a, b, s, m, e⟩ := x
  simp only at h
  subst h
  unfold Wd.val Wd.cells
  go_enter Try.func41, Try.ntmps41
  go_wp2
  all_goals (go_ret; exact ⟨ret_int (by simp [refW]), (Ext.refl w).alloc _⟩)
theorem refers_any (x : Wd) (w : World) : Gives 41 #[x.val] w (.int .i64 (refW x)) := by
  by_cases h : x.tag = 1
  · exact refers_yes x w h
  · exact refers_no x w h

theorem find_p (l : List PB) (k : Int) {y : PB} (h : l.find? (fun y => y.b.at_ = k) = some y) : y ∈ l ∧ y.b.at_ = k :=
  ⟨List.mem_of_find?_eq_some h, by simpa using List.find?_some h⟩

def PH.find (x : PH) (k : Int) : Option PB := x.all.find? fun y => y.b.at_ = k
def ptrO : Option PB → Value
  | none => .pointer none
  | some y => y.ptr
theorem zero_bp (w : World) : (zeroValue 89).run Try.prog w = .ok (.pointer none) w := by kernel_rfl

theorem run_amap {w : World} {base : Nat} {x : PH} (h : HRep w base x) (k : Int) :
    (Instr.lookup 78 x.av (.int .i64 k) false).run Try.prog w = .ok (ptrO (x.find k)) w := by
  obtain ⟨es, c, hm, he, hg⟩ := h.amap
  have hv : (esGet es.toList k).getD (.pointer none) = ptrO (x.find k) := by
    rw [hg k]; unfold atOf PH.find ptrO
    cases x.all.find? fun y => y.b.at_ = k <;> rfl
  rcases hm with ⟨hm, rfl⟩ | ⟨m, hm, hw⟩
  · rw [hm, ← hv]; simp [esGet]
    exact run_lookup_nil Try.underlying78 (q := .i64) Try.underlying3 zero_bp w k
  · rw [hm, ← hv]
    exact run_lookup_int Try.underlying78 Try.underlying3 zero_bp hw he.key k

/-! ### The block with an address -/
set_option maxHeartbeats 400000 in
theorem block_nil (k : Int) (w : World) : Calls Try.prog 42 #[.pointer none, .int .i64 k] w fun e w' => e = .returned (.pointer none) ∧ w' = w := by
  go_enter Try.func42, Try.ntmps42
  go_wp2
  go_ret
  exact ⟨rfl, rfl⟩
set_option maxHeartbeats 400000 in
theorem block_raw (hp : Nat) (k : Int) (av v : Value) (w : World) (h8 : w.cell? ⟨hp, 8, none⟩ = some av) (hl : (Instr.lookup 78 av (.int .i64 k) false).run Try.prog w = .ok v w) :
    Calls Try.prog 42 #[.pointer (some ⟨hp, 0, none⟩), .int .i64 k] w fun e w' => e = .returned v ∧ w' = w := by
  go_enter Try.func42, Try.ntmps42
  go_wp2
  go_ret
  exact ⟨rfl, rfl⟩
theorem block_any {w : World} {base : Nat} {x : PH} (h : HRep w base x) (k : Int) :
    Calls Try.prog 42 #[.pointer (some ⟨x.hp, 0, none⟩), .int .i64 k] w fun e w' => e = .returned (ptrO (x.find k)) ∧ w' = w :=
  block_raw x.hp k x.av _ w ((h.cell 8).trans rfl) (run_amap h k)
theorem block_none {w : World} {base : Nat} {x : PH} (h : HRep w base x) {k : Int} (hf : x.find k = none) :
    Calls Try.prog 42 #[.pointer (some ⟨x.hp, 0, none⟩), .int .i64 k] w fun e w' => e = .returned (.pointer none) ∧ w = w' :=
  (block_any h k).mono fun e w' ⟨a, b⟩ => ⟨by rw [a, hf]; rfl, b.symm⟩
theorem block_some {w : World} {base : Nat} {x : PH} (h : HRep w base x) {k : Int} {y : PB} (hf : x.find k = some y) :
    Calls Try.prog 42 #[.pointer (some ⟨x.hp, 0, none⟩), .int .i64 k] w fun e w' => e = .returned (.pointer (some ⟨y.p, 0, none⟩)) ∧ w = w' :=
  (block_any h k).mono fun e w' ⟨a, b⟩ => ⟨by rw [a, hf]; rfl, b.symm⟩
theorem PH.find_mem {x : PH} {k : Int} {y : PB} (hf : x.find k = some y) : y ∈ x.all ∧ y.b.at_ = k := find_p _ _ hf
theorem HRep.pb {w : World} {base : Nat} {x : PH} (h : HRep w base x) {k : Int} {y : PB} (hf : x.find k = some y) : PBlk w y := h.pbs y (PH.find_mem hf).1

set_option maxHeartbeats 400000 in
theorem isYoung_raw (h b : Nat) (y a : Int) (w : World) (h1 : w.cell? ⟨h, 1, none⟩ = some (.int .i64 y)) (h2 : w.cell? ⟨b, 0, none⟩ = some (.int .i64 a)) :
    Calls Try.prog 43 #[.pointer (some ⟨h, 0, none⟩), .pointer (some ⟨b, 0, none⟩)] w fun e w' => e = .returned (.bool (decide (a ≤ y))) ∧ ∃ n, w' = w.drewN n := by
  go_enter Try.func43, Try.ntmps43
  go_wp2
  go_quiet (fail)
  go_wp2
  go_ret
  exact ⟨rfl, _, rfl⟩
theorem isYoung_any {w : World} {base : Nat} {x : PH} (h : HRep w base x) {y : PB} (hy : PBlk w y) :
    Calls Try.prog 43 #[.pointer (some ⟨x.hp, 0, none⟩), y.ptr] w fun e w' => e = .returned (.bool (decide (y.b.at_ ≤ x.Y))) ∧ ∃ n, w' = w.drewN n :=
  isYoung_raw _ _ _ _ w ((h.cell 1).trans rfl) ((hy.st.cell 0).trans rfl)

set_option maxHeartbeats 400000 in
theorem takes_raw (b : Nat) (a : Option Addr) (n c : Nat) (w : World) (h2 : w.cell? ⟨b, 2, none⟩ = some (.slice a n c)) (hn : n < 9223372036854775807) :
    Calls Try.prog 61 #[.pointer (some ⟨b, 0, none⟩)] w fun e w' => e = .returned (.int .i64 (n + 1)) ∧ w' = w := by
  go_enter Try.func61, Try.ntmps61
  go_wp2
  go_ret
  exact ⟨rfl, rfl⟩

set_option maxHeartbeats 400000 in
theorem gfree_raw (g o : Nat) (s u : Int) (w : World) (h1 : w.cell? ⟨g, o + 1, none⟩ = some (.int .i64 s)) (h2 : w.cell? ⟨g, o + 2, none⟩ = some (.int .i64 u)) (hs : 0 ≤ s) (hs' : s ≤ 100000) (hu : 0 ≤ u) (hu' : u ≤ 100000) :
    Calls Try.prog 48 #[.pointer (some ⟨g, o, none⟩)] w fun e w' => e = .returned (.int .i64 (s - u)) ∧ ∃ n, w' = w.drewN n := by
  go_enter Try.func48, Try.ntmps48
  go_wp2
  go_quiet (fail)
  go_wp2
  go_ret
  exact ⟨rfl, _, rfl⟩

/-! ### A word of a block -/
def errW (x : PH) (k i : Int) : Int := match x.find k with | none => 5 | some y => if 0 ≤ i ∧ i < y.b.ws.length then 0 else 3
def ptrW (x : PH) (k i : Int) : Value := match x.find k with | none => .pointer none | some y => if 0 ≤ i ∧ i < y.b.ws.length then y.ptr else .pointer none

set_option maxHeartbeats 400000 in
theorem hword_none {w : World} {base : Nat} {x : PH} (h : HRep w base x) {k : Int} (i : Int) (hf : x.find k = none) :
    Calls Try.prog 40 #[.pointer (some ⟨x.hp, 0, none⟩), .int .i64 k, .int .i64 i] w fun e w' => e = .returned (.tuple #[.pointer none, .int .i64 5]) ∧ w = w' := by
  have Hf := Lib.hid hf; clear hf
  go_enter Try.func40, Try.ntmps40
  go_wp2_with (go_at_call 42; refine (block_none h Hf.out).mono ?_; rintro e w' ⟨rfl, rfl⟩)
  go_ret2
  exact ⟨rfl, rfl⟩
set_option maxHeartbeats 400000 in
theorem hword_out {w : World} {base : Nat} {x : PH} (h : HRep w base x) {k : Int} (i : Int) {y : PB} (hf : x.find k = some y) (hi : ¬ (0 ≤ i ∧ i < y.b.ws.length)) :
    Calls Try.prog 40 #[.pointer (some ⟨x.hp, 0, none⟩), .int .i64 k, .int .i64 i] w fun e w' => e = .returned (.tuple #[.pointer none, .int .i64 3]) ∧ w = w' := by
  have h2 : w.cell? ⟨y.p, 2, none⟩ = some (.slice (some ⟨y.arr, 0, none⟩) y.b.ws.length y.b.ws.length) := ((h.pb hf).st.cell 2).trans rfl
  have Hf := Lib.hid hf; clear hf
  by_cases hn : i < 0
  · clear hi
    go_enter Try.func40, Try.ntmps40
    go_wp2_with (go_at_call 42; refine (block_some h Hf.out).mono ?_; rintro e w' ⟨rfl, rfl⟩)
    go_ret2
    exact ⟨rfl, rfl⟩
  · have hb : (y.b.ws.length : Int) ≤ i := by omega
    clear hi
    go_enter Try.func40, Try.ntmps40
    go_wp2_with (go_at_call 42; refine (block_some h Hf.out).mono ?_; rintro e w' ⟨rfl, rfl⟩)
    go_ret2
    exact ⟨rfl, rfl⟩
set_option maxHeartbeats 400000 in
theorem hword_in {w : World} {base : Nat} {x : PH} (h : HRep w base x) {k : Int} (i : Int) {y : PB} (hf : x.find k = some y) (h0 : 0 ≤ i) (hi : i < y.b.ws.length) :
    Calls Try.prog 40 #[.pointer (some ⟨x.hp, 0, none⟩), .int .i64 k, .int .i64 i] w fun e w' => e = .returned (.tuple #[.pointer (some ⟨y.p, 0, none⟩), .int .i64 0]) ∧ w = w' := by
  have h2 : w.cell? ⟨y.p, 2, none⟩ = some (.slice (some ⟨y.arr, 0, none⟩) y.b.ws.length y.b.ws.length) := ((h.pb hf).st.cell 2).trans rfl
  have Hf := Lib.hid hf; clear hf
  go_enter Try.func40, Try.ntmps40
  go_wp2_with (go_at_call 42; refine (block_some h Hf.out).mono ?_; rintro e w' ⟨rfl, rfl⟩)
  go_ret2
  exact ⟨rfl, rfl⟩
theorem hword_nil (k i : Int) (w : World) :
    Calls Try.prog 40 #[.pointer none, .int .i64 k, .int .i64 i] w fun e w' => e = .returned (.tuple #[.pointer none, .int .i64 5]) ∧ w = w' := by
  go_enter Try.func40, Try.ntmps40
  go_wp2_with (go_at_call 42; refine (block_nil _ _).mono ?_; rintro e w' ⟨rfl, rfl⟩)
  go_ret2
  exact ⟨rfl, rfl⟩

/-! ### Kind, Size, Young, Load -/
def kindR (f : Option PB) : Int × Int := match f with | none => (0, 5) | some y => (y.b.kind, 0)
def sizeR (f : Option PB) : Int × Int := match f with | none => (0, 5) | some y => (y.b.ws.length, 0)
def youngR (Y : Int) (f : Option PB) : Bool × Int := match f with | none => (false, 5) | some y => (decide (y.b.at_ ≤ Y), 0)
def loadR (f : Option PB) (i : Int) : Wd × Int := match f with | none => (wd0, 5) | some y => if 0 ≤ i ∧ i < y.b.ws.length then (y.b.ws.getD i.toNat wd0, 0) else (wd0, 3)

set_option maxHeartbeats 400000 in
theorem Kind_any {w : World} {base : Nat} {x : PH} (h : HRep w base x) (k : Int) :
    Calls Try.prog 56 #[.pointer (some ⟨x.hp, 0, none⟩), .int .i64 k] w fun e w' => e = .returned (.tuple #[.int .i64 (kindR (x.find k)).1, .int .i64 (kindR (x.find k)).2]) ∧ w = w' := by
  cases hf : x.find k with
  | none =>
    have Hf := Lib.hid hf; clear hf
    simp only [kindR]
    go_enter Try.func56, Try.ntmps56
    go_wp2_with (go_at_call 42; refine (block_none h Hf.out).mono ?_; rintro e w' ⟨rfl, rfl⟩)
    go_ret2
    exact ⟨rfl, rfl⟩
  | some y =>
    have h1 : w.cell? ⟨y.p, 1, none⟩ = some (.int .i64 y.b.kind) := ((h.pb hf).st.cell 1).trans rfl
    have Hf := Lib.hid hf; clear hf
    simp only [kindR]
    go_enter Try.func56, Try.ntmps56
    go_wp2_with (go_at_call 42; refine (block_some h Hf.out).mono ?_; rintro e w' ⟨rfl, rfl⟩)
    go_ret2
    exact ⟨rfl, rfl⟩
set_option maxHeartbeats 400000 in
theorem Size_any {w : World} {base : Nat} {x : PH} (h : HRep w base x) (k : Int) :
    Calls Try.prog 57 #[.pointer (some ⟨x.hp, 0, none⟩), .int .i64 k] w fun e w' => e = .returned (.tuple #[.int .i64 (sizeR (x.find k)).1, .int .i64 (sizeR (x.find k)).2]) ∧ w = w' := by
  cases hf : x.find k with
  | none =>
    have Hf := Lib.hid hf; clear hf
    simp only [sizeR]
    go_enter Try.func57, Try.ntmps57
    go_wp2_with (go_at_call 42; refine (block_none h Hf.out).mono ?_; rintro e w' ⟨rfl, rfl⟩)
    go_ret2
    exact ⟨rfl, rfl⟩
  | some y =>
    have h2 : w.cell? ⟨y.p, 2, none⟩ = some (.slice (some ⟨y.arr, 0, none⟩) y.b.ws.length y.b.ws.length) := ((h.pb hf).st.cell 2).trans rfl
    have Hf := Lib.hid hf; clear hf
    simp only [sizeR]
    go_enter Try.func57, Try.ntmps57
    go_wp2_with (go_at_call 42; refine (block_some h Hf.out).mono ?_; rintro e w' ⟨rfl, rfl⟩)
    go_ret2
    exact ⟨rfl, rfl⟩
set_option maxHeartbeats 400000 in
theorem Young_any {w : World} {base : Nat} {x : PH} (h : HRep w base x) (k : Int) :
    Calls Try.prog 27 #[.pointer (some ⟨x.hp, 0, none⟩), .int .i64 k] w fun e w' => e = .returned (.tuple #[.bool (youngR x.Y (x.find k)).1, .int .i64 (youngR x.Y (x.find k)).2]) ∧ ∃ n, w' = w.drewN n := by
  cases hf : x.find k with
  | none =>
    have Hf := Lib.hid hf; clear hf
    simp only [youngR]
    go_enter Try.func27, Try.ntmps27
    go_wp2_with (go_at_call 42; refine (block_none h Hf.out).mono ?_; rintro e w' ⟨rfl, rfl⟩)
    go_ret2
    exact ⟨rfl, 0, rfl⟩
  | some y =>
    have hy := h.pb hf
    have Hf := Lib.hid hf; clear hf
    simp only [youngR]
    go_enter Try.func27, Try.ntmps27
    go_wp2_with (first | (go_at_call 42; refine (block_some h Hf.out).mono ?_; rintro e w' ⟨rfl, rfl⟩) | (go_at_call 43; refine (isYoung_any h hy).mono ?_; rintro e w' ⟨rfl, n, rfl⟩))
    go_ret2
    exact ⟨rfl, _, rfl⟩
theorem cells6 {w : World} {y : PB} (hy : PBlk w y) (i : Nat) (u : Wd) (hu : y.b.ws[i]? = some u) :
    w.cell? ⟨y.arr, i * 6, none⟩ = some (.int .i64 u.tag) ∧ w.cell? ⟨y.arr, i * 6 + 1, none⟩ = some (.int .i64 u.a) ∧ w.cell? ⟨y.arr, i * 6 + 2, none⟩ = some (.int .i64 u.b) ∧
    w.cell? ⟨y.arr, i * 6 + 3, none⟩ = some (.string u.text) ∧ w.cell? ⟨y.arr, i * 6 + 4, none⟩ = some (.int .i64 u.man) ∧ w.cell? ⟨y.arr, i * 6 + 5, none⟩ = some (.int .i64 u.exp) := by
  have h := fun j hj => (hy.wo.cell (i * 6 + j)).trans (flat_get y.b.ws i u hu j hj)
  exact ⟨h 0 (by omega), h 1 (by omega), h 2 (by omega), h 3 (by omega), h 4 (by omega), h 5 (by omega)⟩
set_option maxHeartbeats 400000 in
theorem Load_in {w : World} {base : Nat} {x : PH} (h : HRep w base x) (k : Int) (i : Nat) {y : PB} (hf : x.find k = some y) {u : Wd} (hu : y.b.ws[i]? = some u) :
    Calls Try.prog 20 #[.pointer (some ⟨x.hp, 0, none⟩), .int .i64 k, .int .i64 i] w fun e w' => e = .returned (.tuple #[u.val, .int .i64 0]) ∧ Ext w w' := by
  have hlt : i < y.b.ws.length := (List.getElem?_eq_some_iff.1 hu).1
  have h2 : w.cell? ⟨y.p, 2, none⟩ = some (.slice (some ⟨y.arr, 0, none⟩) y.b.ws.length y.b.ws.length) := ((h.pb hf).st.cell 2).trans rfl
  obtain ⟨c0, c1, c2, c3, c4, c5⟩ := cells6 (h.pb hf) i u hu
  have hlt' : (i : Int) < y.b.ws.length := by omega
  have h0' : 0 ≤ (i : Int) := by omega
  have l1 : y.p < w.heap.size := (h.pb hf).st.lt
  have l2 : y.arr < w.heap.size := (h.pb hf).wo.lt
  have Hf := Lib.hid hf; clear hf hu
  unfold Wd.val Wd.cells
  go_enter Try.func20, Try.ntmps20
  go_wp2_with (go_at_call 40; refine (hword_in (h.alloc _) (i : Int) Hf.out h0' hlt').mono ?_; rintro e w' ⟨rfl, rfl⟩)
  exact bodyPost_ret (v := .tuple #[.agg #[.int .i64 u.tag, .int .i64 u.a, .int .i64 u.b, .string u.text, .int .i64 u.man, .int .i64 u.exp], .int .i64 0]) (by simp [results, Try.results20, go_sem]) rfl ⟨rfl, (by repeat' (first | exact Keeps.refl _ _ | refine Keeps.drewN ?_ _ | refine Keeps.drew ?_ | refine Keeps.alloc ?_ _ | refine Keeps.setCell ?_ (.inr (by simp)) _))⟩
set_option maxHeartbeats 400000 in
theorem Load_none {w : World} {base : Nat} {x : PH} (h : HRep w base x) (k i : Int) (hf : x.find k = none) :
    Calls Try.prog 20 #[.pointer (some ⟨x.hp, 0, none⟩), .int .i64 k, .int .i64 i] w fun e w' => e = .returned (.tuple #[wd0.val, .int .i64 5]) ∧ Ext w w' := by
  have Hf := Lib.hid hf; clear hf
  unfold Wd.val Wd.cells wd0
  go_enter Try.func20, Try.ntmps20
  go_wp2_with (go_at_call 40; refine (hword_none (h.alloc _) i Hf.out).mono ?_; rintro e w' ⟨rfl, rfl⟩)
  exact bodyPost_ret (v := .tuple #[.agg #[.int .i64 0, .int .i64 0, .int .i64 0, .string ⟨#[]⟩, .int .i64 0, .int .i64 0], .int .i64 5]) (by simp [results, Try.results20, go_sem]) rfl ⟨rfl, (by repeat' (first | exact Keeps.refl _ _ | refine Keeps.drewN ?_ _ | refine Keeps.drew ?_ | refine Keeps.alloc ?_ _ | refine Keeps.setCell ?_ (.inr (by simp)) _))⟩
set_option maxHeartbeats 400000 in
theorem Load_out {w : World} {base : Nat} {x : PH} (h : HRep w base x) (k i : Int) {y : PB} (hf : x.find k = some y) (hi : ¬ (0 ≤ i ∧ i < y.b.ws.length)) :
    Calls Try.prog 20 #[.pointer (some ⟨x.hp, 0, none⟩), .int .i64 k, .int .i64 i] w fun e w' => e = .returned (.tuple #[wd0.val, .int .i64 3]) ∧ Ext w w' := by
  have Hf := Lib.hid hf; clear hf
  have Hi := Lib.hid hi; clear hi
  unfold Wd.val Wd.cells wd0
  go_enter Try.func20, Try.ntmps20
  go_wp2_with (go_at_call 40; refine (hword_out (h.alloc _) i Hf.out Hi.out).mono ?_; rintro e w' ⟨rfl, rfl⟩)
  exact bodyPost_ret (v := .tuple #[.agg #[.int .i64 0, .int .i64 0, .int .i64 0, .string ⟨#[]⟩, .int .i64 0, .int .i64 0], .int .i64 3]) (by simp [results, Try.results20, go_sem]) rfl ⟨rfl, (by repeat' (first | exact Keeps.refl _ _ | refine Keeps.drewN ?_ _ | refine Keeps.drew ?_ | refine Keeps.alloc ?_ _ | refine Keeps.setCell ?_ (.inr (by simp)) _))⟩
theorem Load_any {w : World} {base : Nat} {x : PH} (h : HRep w base x) (k i : Int) :
    Calls Try.prog 20 #[.pointer (some ⟨x.hp, 0, none⟩), .int .i64 k, .int .i64 i] w fun e w' => e = .returned (.tuple #[(loadR (x.find k) i).1.val, .int .i64 (loadR (x.find k) i).2]) ∧ Ext w w' := by
  cases hf : x.find k with
  | none => exact Load_none h k i hf
  | some y =>
    by_cases hi : 0 ≤ i ∧ i < y.b.ws.length
    · simp only [loadR, if_pos hi]
      obtain ⟨h0, h1⟩ := hi
      obtain ⟨n, rfl⟩ := Int.eq_ofNat_of_zero_le h0
      have hu : y.b.ws[n]? = some (y.b.ws.getD n wd0) := by
        have : n < y.b.ws.length := by omega
        simp [this]
      exact Load_in h k n hf hu
    · simp only [loadR, if_neg hi]
      exact Load_out h k i hf hi
theorem Load_nil (k i : Int) (w : World) :
    Calls Try.prog 20 #[.pointer none, .int .i64 k, .int .i64 i] w fun e w' => e = .returned (.tuple #[wd0.val, .int .i64 5]) ∧ Ext w w' := by
  unfold Wd.val Wd.cells wd0
  go_enter Try.func20, Try.ntmps20
  go_wp2_with (go_at_call 40; refine (hword_nil _ _ _).mono ?_; rintro e w' ⟨rfl, rfl⟩)
  exact bodyPost_ret (v := .tuple #[.agg #[.int .i64 0, .int .i64 0, .int .i64 0, .string ⟨#[]⟩, .int .i64 0, .int .i64 0], .int .i64 5]) (by simp [results, Try.results20, go_sem]) rfl ⟨rfl, (by repeat' (first | exact Keeps.refl _ _ | refine Keeps.drewN ?_ _ | refine Keeps.drew ?_ | refine Keeps.alloc ?_ _ | refine Keeps.setCell ?_ (.inr (by simp)) _))⟩
theorem Kind_nil (k : Int) (w : World) : Calls Try.prog 56 #[.pointer none, .int .i64 k] w fun e w' => e = .returned (.tuple #[.int .i64 0, .int .i64 5]) ∧ w = w' := by
  go_enter Try.func56, Try.ntmps56
  go_wp2_with (go_at_call 42; refine (block_nil _ _).mono ?_; rintro e w' ⟨rfl, rfl⟩)
  go_ret2
  exact ⟨rfl, rfl⟩
theorem Size_nil (k : Int) (w : World) : Calls Try.prog 57 #[.pointer none, .int .i64 k] w fun e w' => e = .returned (.tuple #[.int .i64 0, .int .i64 5]) ∧ w = w' := by
  go_enter Try.func57, Try.ntmps57
  go_wp2_with (go_at_call 42; refine (block_nil _ _).mono ?_; rintro e w' ⟨rfl, rfl⟩)
  go_ret2
  exact ⟨rfl, rfl⟩
theorem Young_nil (k : Int) (w : World) : Calls Try.prog 27 #[.pointer none, .int .i64 k] w fun e w' => e = .returned (.tuple #[.bool false, .int .i64 5]) ∧ w = w' := by
  go_enter Try.func27, Try.ntmps27
  go_wp2_with (go_at_call 42; refine (block_nil _ _).mono ?_; rintro e w' ⟨rfl, rfl⟩)
  go_ret2
  exact ⟨rfl, rfl⟩

/-! ### Free -/
set_option maxHeartbeats 400000 in
theorem Free_any {w : World} {base : Nat} {x : PH} (h : HRep w base x) (hY : 0 ≤ x.Y) (hY' : x.Y ≤ 100000) (hO : 0 ≤ x.O) (hO' : x.O ≤ 100000) (hy : 0 ≤ x.yu) (hy' : x.yu ≤ 100000) (ho : 0 ≤ x.ou) (ho' : x.ou ≤ 100000) :
    Calls Try.prog 23 #[.pointer (some ⟨x.hp, 0, none⟩)] w fun e w' => e = .returned (.tuple #[.int .i64 (x.Y - x.yu), .int .i64 (x.O - x.ou)]) ∧ ∃ n, w' = w.drewN n := by
  have c1 : w.cell? ⟨x.hp, 0 + 1, none⟩ = some (.int .i64 x.Y) := (h.cell 1).trans rfl
  have c2 : w.cell? ⟨x.hp, 0 + 2, none⟩ = some (.int .i64 x.yu) := (h.cell 2).trans rfl
  have c5 : w.cell? ⟨x.hp, 4 + 1, none⟩ = some (.int .i64 x.O) := (h.cell 5).trans rfl
  have c6 : w.cell? ⟨x.hp, 4 + 2, none⟩ = some (.int .i64 x.ou) := (h.cell 6).trans rfl
  go_enter Try.func23, Try.ntmps23
  go_wp2
  go_quiet ((go_at_call 48; first | ((with_reducible refine Calls.quiet_of (gfree_raw x.hp 0 x.Y x.yu _ ?_ ?_ hY hY' hy hy')); exact c1; exact c2) | ((with_reducible refine Calls.quiet_of (gfree_raw x.hp 4 x.O x.ou _ ?_ ?_ hO hO' ho ho')); exact c5; exact c6)))
  go_wp2
  go_ret2
  exact ⟨rfl, _, rfl⟩
theorem Free_nil (w : World) : Calls Try.prog 23 #[.pointer none] w fun e w' => e = .returned (.tuple #[.int .i64 0, .int .i64 0]) ∧ w = w' := by
  go_enter Try.func23, Try.ntmps23
  go_wp2
  go_ret2
  exact ⟨rfl, rfl⟩
end Go.Proofs.Ytikigppfnhilhaa
/- slices.Clone of words; lists of words that are read. -/
namespace Go.Proofs.Ytikigppfnhilhaa
open Go.RowKit Go.Instr
set_option linter.unusedVariables false
set_option linter.unusedSimpArgs false

theorem info_wordC : (Try.prog.info? 33).map (fun i => (i.zero, i.size, i.bytes)) = some (some (.agg #[.int .i64 0, .int .i64 0, .int .i64 0, .string ⟨#[]⟩, .int .i64 0, .int .i64 0]), 6, 56) := by kernel_rfl

/-- A slice value that reads as a list of words. -/
def RdW (w : World) (v : Value) (ws : List Wd) : Prop :=
  ∃ a c, v = .slice a ws.length c ∧ (a = none → ws = []) ∧ ∀ ad, a = some ad → ∀ j u, (flatL ws)[j]? = some u → w.cell? (ad.add j) = some u
def RdW.block (v : Value) (k : Nat) : Prop := v.ownBlock = some k
theorem RdW.keep {w w' : World} {v : Value} {ws : List Wd} (h : RdW w v ws) (hk : ∀ k, v.ownBlock = some k → w'.heap[k]? = w.heap[k]?) : RdW w' v ws := by
  obtain ⟨a, c, rfl, h1, h2⟩ := h
  refine ⟨a, c, rfl, h1, fun ad had j u hu => ?_⟩
  subst had
  rw [← h2 ad rfl j u hu]
  refine World.cell?_of_block ?_
  have : (ad.add j).block = ad.block := by unfold Addr.add; split <;> rfl
  rw [this]; exact hk ad.block rfl
/-- (Rows without words may lie anywhere.) -/
theorem RdW.ext {w w' : World} {v : Value} {ws : List Wd} (h : RdW w v ws) (hx : Ext w w') : RdW w' v ws := by
  obtain ⟨a, c, rfl, h1, h2⟩ := h
  exact ⟨a, c, rfl, h1, fun ad had j u hu => hx.cell (h2 ad had j u hu)⟩
theorem RdW.kept {S : Nat → Prop} {w w' : World} {v : Value} {ws : List Wd} (h : RdW w v ws) (hx : Keeps S w w') (hs : ∀ k, v.ownBlock = some k → ¬ S k) : RdW w' v ws := by
  obtain ⟨a, c, rfl, h1, h2⟩ := h
  refine ⟨a, c, rfl, h1, fun ad had j u hu => ?_⟩
  have hc := h2 ad had j u hu
  have hb : (ad.add j).block = ad.block := by unfold Addr.add; split <;> rfl
  rw [← hc]
  refine World.cell?_of_block (hx.block _ (World.block_lt_of_cell? _ _ hc) ?_)
  rw [hb]; subst had; exact hs _ rfl
theorem rdW_of_own {w : World} {base : Nat} {v : Value} {ws : List Wd} (h : w.ownsRow base 33 6 v ws.length (flatL ws)) : RdW w v ws := by
  have hc := fun g hg => h.cells (g := g) hg
  rcases h.2 with ⟨rfl, hl⟩ | ⟨g, cap, cur, rfl, _⟩
  · have : ws = [] := List.eq_nil_of_length_eq_zero hl
    subst this
    exact ⟨none, 0, rfl, fun _ => rfl, fun ad had => by cases had⟩
  · exact ⟨some ⟨g, 0, none⟩, cap, rfl, fun h => (by cases h), fun ad had j u hu => by injection had with had; subst had; exact hc g rfl j u hu⟩
theorem rdW_of_pb {w : World} {y : PB} (h : PBlk w y) : RdW w (.slice (some ⟨y.arr, 0, none⟩) y.b.ws.length y.b.ws.length) y.b.ws :=
  ⟨_, _, rfl, fun h => (by cases h), fun ad had j u hu => by
    injection had with had; subst had
    have : (⟨y.arr, 0, none⟩ : Addr).add j = ⟨y.arr, j, none⟩ := by unfold Addr.add; split <;> simp_all
    rw [this, h.wo.cell]; simpa [flat] using hu⟩
theorem flatL_one (ws : List Wd) : ∀ u ∈ flatL ws, u.oneCell' = true := by
  intro u hu
  simp only [flatL, List.mem_flatMap] at hu
  obtain ⟨x, _, hx⟩ := hu
  simp only [Wd.cells, List.mem_cons, List.not_mem_nil, or_false] at hx
  rcases hx with rfl | rfl | rfl | rfl | rfl | rfl <;> simp [Value.oneCell']

theorem run_eql_sl {P : Program} {t e : TypeId} (h : P.underlying t = some (.slice e)) (w : World) (a : Option Addr) (n c n' c' : Nat) :
    (binOp .eql t (.slice a n c) (.slice none n' c')).run P w = .ok (.bool a.isNone) w := by
  simp only [binOp]
  simp [Op.equal, Op.maxDepth, Lib.run_equalIn_slice_nil w 9999 t e a n c n' c' h]
set_option maxRecDepth 100000 in
set_option maxHeartbeats 400000 in
theorem CloneW_any {w : World} {v : Value} {ws : List Wd} (h : RdW w v ws) (hl : ws.length ≤ 2000000) :
    Calls Try.prog 38 #[v] w fun e w' => ∃ v', e = .returned v' ∧ w'.ownsRow w.heap.size 33 6 v' ws.length (flatL ws) ∧ Ext w w' := by
  have q := run_eql_sl (P := Try.prog) Try.underlying23
  obtain ⟨a, c, rfl, h1, h2⟩ := h
  cases a with
  | none =>
    have h1 := h1 rfl
    subst h1
    clear h2
    go_enter Try.func38, Try.ntmps38
    go_wp2
    go_ret
    exact ⟨_, rfl, World.ownsRow_nil w _ _ _, Ext.refl w⟩
  | some ad =>
    obtain ⟨i0, hi, hz0, hz1, hz2⟩ := info_parts info_wordC
    have h2 := Lib.hid (h2 ad rfl)
    clear h1
    go_enter Try.func38, Try.ntmps38
    go_wp2_with (at_builtin; refine wpList_append_fresh rfl _ _ 23 rfl w.heap.size 33 i0 _ 6 56 Try.underlying23 hi hz0 hz1 hz2 rfl (by decide) _ 0 [] rfl (World.ownsRow_made w #[] 0 (Nat.le_refl _) (by decide) rfl) ad ws.length c (flatL ws) rfl (flatL_length ws) ?c1 ?c2 ?c3 ?c4 ?c5 ?_)
    case c1 => exact fun j u hu => Ext.cell ((Ext.refl w).alloc _) (h2.out j u hu)
    case c2 => exact flatL_one ws
    case c3 => unfold maxLen; omega
    case c4 => omega
    case c5 => simp
    intro v' w1 hown hgrow hnil hfresh
    have Hown := Lib.hid hown
    have HK : Hid (Ext w w1) := Lib.hid (((Ext.refl w).alloc (.cells #[] 33)).grown hgrow fun k e => .inr (by cases e; exact Nat.le_refl _))
    clear hown hgrow hnil hfresh
    go_wp2
    go_ret
    refine ⟨_, rfl, ?_, HK.out⟩
    have := Hown.out
    simpa using this
end Go.Proofs.Ytikigppfnhilhaa
