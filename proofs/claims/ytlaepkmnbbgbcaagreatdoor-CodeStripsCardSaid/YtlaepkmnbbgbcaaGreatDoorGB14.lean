/- (*reader).read: the deferred closure. Maps with strings as keys (after HB's of ints). Ranging over the operations. -/
import Derived.Test.YtlaepkmnbbgbcaaGreatDoorGB13
import Derived.Recover
import Derived.Defers
import Derived.Laws.Pointers
import Derived.Test.YtlaepkmnbbgbcaaGreatDoorGB1
import Derived.Maps.RangeRun
import Derived.Maps.Range
/- (*reader).read: the deferred closure. -/
namespace Go.Proofs.YtlaepkmnbbgbcaaGreatDoor
open Go.RowKit Go.Instr Go.Shelf
set_option linter.unusedVariables false
set_option linter.unusedSimpArgs false
attribute [local go_sem] Oper.semAt_some

theorem catch_idle (p : Addr) (w : World) :
    CallsD Tryz.prog 109 #[.pointer (some p)] .returning w fun e u' w' => e = .returned (.tuple #[]) ∧ u' = .returning ∧ w' = w := by
  refine callsD_of_wpS Tryz.func109 rfl fun c₀ cs hu => ?_
  apply wpS_seq
  apply wpS_region
  simp [wpOpsS, go_sem, recoverD, hu, Tryz.ntmps109, Exit.thenS]
  apply wpS_seq
  apply wpS_region
  simp [wpOpsS, go_sem, recoverD, hu, Tryz.ntmps109, Exit.thenS]
  refine wpS_cond (t := false) (by simp [Act.eval, Array.replicate]) ?_
  simp only [Bool.false_eq_true, if_false]
  refine wpS_of_wp (wp_skip ?_)
  cases c₀
  simp_all [bodyPostS, results, Tryz.results109]
set_option maxRecDepth 100000 in
theorem catch_panicking (p : Addr) (x : Value) (older : List PanicEntry) (w : World) (hp : p.block < w.heap.size) (hc : w.cell? p = some (.bool false)) (hz : w.frozen? p = false) :
    CallsD Tryz.prog 109 #[.pointer (some p)] (.panicking ({ v := badLine, recovered := false } :: older)) w fun e u' w' =>
      e = .returned (.tuple #[]) ∧ u' = .panicking ({ v := badLine, recovered := true } :: older) ∧ Keeps (fun k => k = p.block) w w' ∧ w'.cell? p = some (.bool false) := by
  refine callsD_of_wpS Tryz.func109 rfl fun c₀ cs hu => ?_
  apply wpS_seq
  apply wpS_region
  simp [wpOpsS, go_sem, recoverD, hu, Tryz.ntmps109, Exit.thenS]
  apply wpS_seq
  apply wpS_region
  simp [wpOpsS, go_sem, recoverD, hu, badLine, Tryz.ntmps109, Exit.thenS]
  refine wpS_cond (t := true) (by simp [Act.eval, Array.replicate]) ?_
  simp only [if_true]
  refine wpS_of_wp ?_
  have hc2 : (w.alloc (.cells #[] 154)).cell? p = some (.bool false) := by
    rw [World.cell?_of_block (w := w) (by rw [Below.heap_alloc _ _ _ hp])]; exact hc
  have hz2 : (w.alloc (.cells #[] 154)).frozen? p = false := by
    rw [World.frozen?_of_block (w := w) (by rw [Below.heap_alloc _ _ _ hp])]; exact hz
  have hta : ∀ w, (Instr.typeAssert (.iface 154 (.agg #[])) 20 154 true).run Tryz.prog w = .ok (.tuple #[.agg #[], .bool true]) w := fun w => by kernel_rfl
  simp only [Array.replicate_succ, Array.replicate_zero, List.push_toArray, List.append_toArray, List.nil_append, List.cons_append, List.setIfInBounds_toArray, List.set_cons_zero, List.set_cons_succ]
  go_wp2
  have hlt : p.block < (w.alloc (.cells #[] 154)).heap.size := by rw [World.size_alloc]; omega
  refine ⟨rfl, _, rfl, .tuple #[], results_none rfl _ _ _, rfl, rfl, ((Keeps.refl (fun k => k = p.block) w).alloc _).setCell (.inl rfl) _, ?_⟩
  simp [go_sem, hc2]
/-- read, where the line has its form and its group. -/
theorem read_ok {w : World} {br : Nat} {dv lv tv rv iv ov av : Value} {g : Int} (hB : RdrBlk w br dv lv tv rv iv (.int .i64 g) ov av) {s : ByteArray} {g' : Int} {R : World → Prop} {S : Nat → Prop}
    (hline : ∀ W, Ex w W → Calls Tryz.prog 110 #[.pointer (some ⟨br, 0, none⟩), .string s] W fun e w' => e = .returned (.int .i64 g') ∧ Keeps S W w' ∧ ∃ dv lv tv rv iv, RdrBlk w' br dv lv tv rv iv (.int .i64 g) ov av ∧ R w')
    (hS : ∀ k, S k → k < w.heap.size) (hg : g ≤ g') :
    Calls Tryz.prog 59 #[.pointer (some ⟨br, 0, none⟩), .string s] w fun e w' => e = .returned (.bool true) ∧ ∃ W dv lv tv rv iv b, Keeps S w W ∧ RdrBlk W br dv lv tv rv iv (.int .i64 g) ov av ∧ R W ∧ w.heap.size ≤ b ∧ Keeps (fun k => k = br ∨ k = b) W w' ∧ RdrBlk w' br dv lv tv rv iv (.int .i64 g') ov av := by
  have hmf : ∀ (fn : Fn) (first cap : Array Value) (w : World), (Instr.makeFunc fn first cap).run Tryz.prog w = .ok (.func fn first cap) w := fun _ _ _ _ => rfl
  obtain ⟨W1, hW1⟩ : ∃ W1, w.alloc (.cells #[.bool false] 4) = W1 := ⟨_, rfl⟩
  obtain ⟨bo, hbo⟩ : ∃ bo, w.heap.size = bo := ⟨_, rfl⟩
  have hX1 : Ex w W1 := by rw [← hW1]; exact (Keeps.refl _ w).alloc _
  have hO1 : Blk W1 bo #[.bool false] 4 := by rw [← hW1, ← hbo]; exact Blk.new w _ _
  have hl1 := hline W1 hX1
  have HL := Lib.hid hl1; have HX1 := Lib.hid hX1; have HO1 := Lib.hid hO1; have HW1 := Lib.hid hW1; have Hbo := Lib.hid hbo; have HB := Lib.hid hB; have HS := Lib.hid hS
  clear hline hl1 hX1 hO1 hW1 hbo hB hS
  go_enter_defers Tryz.func59, Tryz.ntmps59
  go_upto_region 2 with fail
  rw [HW1.out]
  try rw [Hbo.out]
  go_wp2_with (go_at_call 110; refine HL.out.mono ?_)
  rintro e W2 ⟨rfl, hk2, dv2, lv2, tv2, rv2, iv2, hr2, hR⟩
  have hO2 : Blk W2 bo #[.bool false] 4 := hk2.blk HO1.out (fun h => by have := HS.out _ h; rw [Hbo.out] at this; omega)
  have hne : br ≠ bo := hr2.ne hO2 (by decide)
  have x5 : W2.cell? ⟨br, 5, none⟩ = some (.int .i64 g) := (hr2.cell 5).trans rfl
  have f5 : W2.frozen? ⟨br, 5, none⟩ = false := hr2.frozen 5
  obtain ⟨W3, hW3⟩ : ∃ W3, W2.setCell ⟨br, 5, none⟩ (.int .i64 g') = W3 := ⟨_, rfl⟩
  have hr3 : RdrBlk W3 br dv2 lv2 tv2 rv2 iv2 (.int .i64 g') ov av := by rw [← hW3]; exact hr2.set 5 _
  have hO3 : Blk W3 bo #[.bool false] 4 := by rw [← hW3]; exact hO2.far (Ne.symm hne) _
  have y0 : W3.cell? ⟨bo, 0, none⟩ = some (.bool false) := (hO3.cell 0).trans rfl
  have z0 : W3.frozen? ⟨bo, 0, none⟩ = false := hO3.frozen 0
  have hr4 : RdrBlk (W3.setCell ⟨bo, 0, none⟩ (.bool true)) br dv2 lv2 tv2 rv2 iv2 (.int .i64 g') ov av := hr3.far hne _
  have hO4 : Blk (W3.setCell ⟨bo, 0, none⟩ (.bool true)) bo #[.bool true] 4 := hO3.set 0 (.bool true)
  have hK4 : Keeps (fun k => k = br ∨ k = bo) W2 (W3.setCell ⟨bo, 0, none⟩ (.bool true)) := by rw [← hW3]; exact ((Keeps.refl _ W2).setCell (p := ⟨br, 5, none⟩) (.inl (.inl rfl)) _).setCell (p := ⟨bo, 0, none⟩) (.inl (.inr rfl)) _
  obtain ⟨W4, hW4⟩ : ∃ W4, W3.setCell ⟨bo, 0, none⟩ (.bool true) = W4 := ⟨_, rfl⟩
  rw [hW4] at hr4 hO4 hK4
  have z4 : W4.cell? ⟨bo, 0, none⟩ = some (.bool true) := (hO4.cell 0).trans rfl
  have HR4 := Lib.hid hr4; have HO4 := Lib.hid hO4; have HK4 := Lib.hid hK4; have HR2 := Lib.hid hr2; have HR := Lib.hid hR; have HK2 := Lib.hid hk2; have HW3 := Lib.hid hW3; have HW4 := Lib.hid hW4; have Z4 := Lib.hid z4
  clear hr4 hO4 hK4 hr2 hR hk2 hW3 hW4 hO3 hr3 hO2 z4
  go_wp2_with (go_at_call 111; refine want_true.mono ?_)
  rintro e W2 ⟨rfl, rfl⟩
  go_upto_region 5 with fail
  rw [HW3.out]
  go_wp2_with fail
  rw [HW4.out]
  refine leaves_cons (f := 109) (args := #[.pointer (some ⟨bo, 0, none⟩)]) (by simp) (by simp [go_sem]) ?_
  refine (catch_idle ⟨bo, 0, none⟩ _).mono ?_
  rintro e u' w'' ⟨rfl, rfl, rfl⟩
  have z := Z4.out
  simp [Leaves, settle, results, Tryz.results59, go_sem, z]
  exact ⟨W2, Keeps.trans (HX1.out.mono fun _ _ h => h.elim) HK2.out, _, _, _, _, _, HR2.out, HR.out, bo, by rw [Hbo.out]; exact Nat.le_refl _, HK4.out, HR4.out⟩
/-- read, where the line has its form, but comes too late. -/
theorem read_late {w : World} {br : Nat} {dv lv tv rv iv ov av : Value} {g : Int} (hB : RdrBlk w br dv lv tv rv iv (.int .i64 g) ov av) {s : ByteArray} {g' : Int} {R : World → Prop} {S : Nat → Prop}
    (hline : ∀ W, Ex w W → Calls Tryz.prog 110 #[.pointer (some ⟨br, 0, none⟩), .string s] W fun e w' => e = .returned (.int .i64 g') ∧ Keeps S W w' ∧ ∃ dv lv tv rv iv, RdrBlk w' br dv lv tv rv iv (.int .i64 g) ov av ∧ R w')
    (hS : ∀ k, S k → k < w.heap.size) (hg : g' < g) :
    Calls Tryz.prog 59 #[.pointer (some ⟨br, 0, none⟩), .string s] w fun e w' => e = .returned (.bool false) ∧ ∃ b, w.heap.size ≤ b ∧ Keeps (fun k => S k ∨ k = b) w w' := by
  have hmf : ∀ (fn : Fn) (first cap : Array Value) (w : World), (Instr.makeFunc fn first cap).run Tryz.prog w = .ok (.func fn first cap) w := fun _ _ _ _ => rfl
  obtain ⟨W1, hW1⟩ : ∃ W1, w.alloc (.cells #[.bool false] 4) = W1 := ⟨_, rfl⟩
  obtain ⟨bo, hbo⟩ : ∃ bo, w.heap.size = bo := ⟨_, rfl⟩
  have hX1 : Ex w W1 := by rw [← hW1]; exact (Keeps.refl _ w).alloc _
  have hO1 : Blk W1 bo #[.bool false] 4 := by rw [← hW1, ← hbo]; exact Blk.new w _ _
  have hl1 := hline W1 hX1
  have HL := Lib.hid hl1; have HX1 := Lib.hid hX1; have HO1 := Lib.hid hO1; have HW1 := Lib.hid hW1; have Hbo := Lib.hid hbo; have HB := Lib.hid hB; have HS := Lib.hid hS
  clear hline hl1 hX1 hO1 hW1 hbo hB hS
  go_enter_defers Tryz.func59, Tryz.ntmps59
  go_upto_region 2 with fail
  rw [HW1.out]
  try rw [Hbo.out]
  go_wp2_with (go_at_call 110; refine HL.out.mono ?_)
  rintro e W2 ⟨rfl, hk2, dv2, lv2, tv2, rv2, iv2, hr2, hR⟩
  have hO2 : Blk W2 bo #[.bool false] 4 := hk2.blk HO1.out (fun h => by have := HS.out _ h; rw [Hbo.out] at this; omega)
  have hne : br ≠ bo := hr2.ne hO2 (by decide)
  have x5 : W2.cell? ⟨br, 5, none⟩ = some (.int .i64 g) := (hr2.cell 5).trans rfl
  have hgd : decide (g ≤ g') = false := by simp; omega
  have y0 : W2.cell? ⟨bo, 0, none⟩ = some (.bool false) := (hO2.cell 0).trans rfl
  have z0 : W2.frozen? ⟨bo, 0, none⟩ = false := hO2.frozen 0
  have HK2 := Lib.hid hk2; have HO2 := Lib.hid hO2; have Y0 := Lib.hid y0; have Z0 := Lib.hid z0
  clear hr2 hR hk2 hO2 y0 z0
  go_wp2_with (go_at_call 111; refine want_false.mono ?_)
  rintro e W2 ⟨rfl, rfl⟩
  go_wp2_with fail
  refine leaves_cons (f := 109) (args := #[.pointer (some ⟨bo, 0, none⟩)]) (by simp) (by simp [go_sem]) ?_
  refine (catch_panicking ⟨bo, 0, none⟩ badLine [] _ HO2.out.lt Y0.out Z0.out).mono ?_
  rintro e u' w5 ⟨rfl, rfl, hk5, hc5⟩
  have hk5 : Keeps (fun k => S k ∨ k = bo) w w5 := Keeps.trans (Keeps.trans (HX1.out.mono fun _ _ h => h.elim) (HK2.out.mono fun _ _ h => .inl h)) (hk5.mono fun _ _ h => .inr h)
  have HK5 := Lib.hid hk5
  clear hk5
  simp [Leaves, settle, results, Tryz.results59, go_sem, hc5]
  exact ⟨bo, by rw [Hbo.out]; exact Nat.le_refl _, HK5.out⟩
end Go.Proofs.YtlaepkmnbbgbcaaGreatDoor
/- Maps with strings as keys (after HB's of ints). -/
namespace Go.Proofs.YtlaepkmnbbgbcaaGreatDoor
open Go.RowKit Go.Instr
set_option linter.unusedVariables false
set_option linter.unusedSimpArgs false

theorem ba_beq (a b : ByteArray) : (a == b) = decide (a = b) := by
  cases a; cases b
  rename_i x y
  show (x == y) = _
  rw [Bool.eq_iff_iff]
  simp
theorem ba_self (a : ByteArray) : (a == a) = true := by rw [ba_beq]; simp
/-! ### Maps with strings as keys -/
/-- The entries of a map whose keys are ints: keys and stamps differ. -/
structure StrEs (es : Array MapEntry) (clock : Nat) : Prop where
  key : ∀ e ∈ es, ∃ k, e.key = .string k
  nodup : (es.toList.map (·.key)).Nodup
  born : ∀ e ∈ es, e.born < clock
  borns : (es.toList.map (·.born)).Nodup

theorem StrEs.empty (c : Nat) : StrEs #[] c := ⟨by simp, by simp, by simp, by simp⟩

/-- What such a map has at a number. -/
def ssGet : List MapEntry → ByteArray → Option Value
  | [], _ => none
  | e :: es, k => match e.key with | .string n => if n = k then some e.val else ssGet es k | _ => ssGet es k

theorem findNow_str (es : List MapEntry) (hk : ∀ e ∈ es, ∃ k, e.key = .string k) (k : ByteArray) : ∀ i, ∃ r, findNow .string (.string k) es i = some r ∧ r.map (·.2) = ssGet es k ∧
    (∀ x, r = some x → i ≤ x.1 ∧ ∃ e, es[x.1 - i]? = some e ∧ e.key = .string k) ∧ (r = none → ∀ e ∈ es, e.key ≠ .string k) := by
  induction es with
  | nil => intro i; exact ⟨none, rfl, rfl, by simp, by simp⟩
  | cons e es ih =>
    intro i
    obtain ⟨n, hn⟩ := hk e (by simp)
    by_cases h : n = k
    · subst h
      refine ⟨some (i, e.val), ?_, ?_, ?_, by simp⟩
      · simp [findNow, hn, sameNow, ba_self]
      · simp [ssGet, hn]
      · intro x hx; injection hx with hx; subst hx; exact ⟨Nat.le_refl _, e, by simp, hn⟩
    · obtain ⟨r, h1, h2, h3, h4⟩ := ih (fun e he => hk e (by simp [he])) (i + 1)
      refine ⟨r, ?_, ?_, ?_, ?_⟩
      · have : (k == n) = false := by rw [ba_beq, decide_eq_false_iff_not]; exact fun x => h x.symm
        simp [findNow, hn, sameNow, this, h1]
      · simp [ssGet, hn, h, h2]
      · intro x hx
        obtain ⟨g1, e', g2, g3⟩ := h3 x hx
        refine ⟨by omega, e', ?_, g3⟩
        rw [show x.1 - i = (x.1 - (i + 1)) + 1 from by omega]; simpa using g2
      · intro hr e' he'
        rcases List.mem_cons.1 he' with rfl | he'
        · rw [hn]; intro x; injection x with x; exact h x
        · exact h4 hr e' he'

theorem ssGet_append (a b : List MapEntry) (k : ByteArray) : ssGet (a ++ b) k = (ssGet a k).or (ssGet b k) := by
  induction a with
  | nil => simp [ssGet]
  | cons e a ih =>
    simp only [List.cons_append, ssGet]
    split
    · split
      · simp
      · exact ih
    · exact ih
theorem ssGet_mem {es : List MapEntry} {k : ByteArray} {v : Value} (h : ssGet es k = some v) : ∃ e ∈ es, (e.key = .string k) ∧ e.val = v := by
  induction es with
  | nil => simp [ssGet] at h
  | cons e es ih =>
    simp only [ssGet] at h
    split at h
    · rename_i n hk
      split at h
      · rename_i hn; subst hn; injection h with h; exact ⟨e, by simp, hk, h⟩
      · obtain ⟨e', a, b⟩ := ih h; exact ⟨e', by simp [a], b⟩
    · obtain ⟨e', a, b⟩ := ih h; exact ⟨e', by simp [a], b⟩
theorem ssGet_set (es : List MapEntry) (hn : (es.map (·.key)).Nodup) (hk : ∀ e ∈ es, ∃ k, e.key = .string k) (i : Nat) (e0 : MapEntry) (hi : es[i]? = some e0) (k : ByteArray) (h0 : e0.key = .string k) (v : Value) (j : ByteArray) :
    ssGet (es.set i { e0 with key := .string k, val := v }) j = if j = k then some v else ssGet es j := by
  induction es generalizing i with
  | nil => simp at hi
  | cons e es ih =>
    cases i with
    | zero =>
      simp at hi; subst hi
      simp only [List.set_cons_zero, ssGet, h0]
      by_cases h : j = k
      · simp [h]
      · simp [h, Ne.symm h]
    | succ i =>
      simp only [List.getElem?_cons_succ] at hi
      obtain ⟨n, hn'⟩ := hk e (by simp)
      simp only [List.map_cons, List.nodup_cons] at hn
      have hne : n ≠ k := by
        rintro rfl
        exact hn.1 (List.mem_map.2 ⟨e0, List.mem_of_getElem? hi, by rw [h0, hn']⟩)
      simp only [List.set_cons_succ, ssGet, hn']
      rw [ih hn.2 (fun e he => hk e (by simp [he])) i hi]
      by_cases h : n = j
      · subst h; simp [hne]
      · simp [h]

section maps
variable {P : Program} {T K E : TypeId} 
theorem run_checkKey_str (hK : P.underlying K = some .string) (w : World) (b : Bool) (k : ByteArray) : (checkKey b 10000 K (.string k)).run P w = .ok () w := by
  have h : ∀ n, (checkKey b (n + 1) K (.string k)).run P w = .ok () w := by intro n; simp [checkKey, run_underlying hK]
  exact h 9999
theorem run_lookup_str (hT : P.underlying T = some (.map K E)) (hK : P.underlying K = some .string) {z : Value} (hz : ∀ w, (zeroValue E).run P w = .ok z w)
    {w : World} {m clock : Nat} {es : Array MapEntry} (hm : w.heap[m]? = some (.map es clock)) (he : ∀ e ∈ es, ∃ k, e.key = .string k) (k : ByteArray) :
    (Instr.lookup T (.map (some m)) (.string k) false).run P w = .ok ((ssGet es.toList k).getD z) w := by
  obtain ⟨r, h1, h2, -, -⟩ := findNow_str es.toList (by simpa using he) k 0
  have hf : (findKey K (.string k) es.toList).run P w = .ok r w := by
    unfold findKey; simp [run_underlying hK, h1]
  have hc := run_checkKey_str (P := P) hK w
  have hg : (getObj m).run P w = .ok (.map es clock) w := by simp [getObj, Sem.run, hm]
  unfold Instr.lookup
  simp only [Sem.run_bind, run_underlying hT, hg, Result.andThen_ok, Sem.run_pure]
  rw [hc, Result.andThen_ok, hf, Result.andThen_ok]
  cases r with
  | none => simp at h2; simp [hz, ← h2]
  | some x => simp at h2; simp [← h2]
theorem run_lookup_nil_str (hT : P.underlying T = some (.map K E)) (hK : P.underlying K = some .string) {z : Value} (hz : ∀ w, (zeroValue E).run P w = .ok z w) (w : World) (k : ByteArray) :
    (Instr.lookup T (.map none) (.string k) false).run P w = .ok z w := by
  have hf : (findKey K (.string k) (#[] : Array MapEntry).toList).run P w = .ok none w := by
    unfold findKey; simp [run_underlying hK, findNow]
  have hc := run_checkKey_str (P := P) hK w
  unfold Instr.lookup
  simp only [Sem.run_bind, run_underlying hT, Result.andThen_ok, Sem.run_pure]
  rw [hc, Result.andThen_ok, hf, Result.andThen_ok]
  simp [hz]
/-- A store into a map: the entry is there, or it's new. -/
theorem run_mapUpdate_str (hT : P.underlying T = some (.map K E)) (hK : P.underlying K = some .string)
    (m : Nat) {clock : Nat} {es : Array MapEntry} (he : StrEs es clock) (k : ByteArray) (v : Value) :
    ∃ es' clock', (∀ w : World, w.heap[m]? = some (.map es clock) → (Instr.mapUpdate T (.map (some m)) (.string k) v).run P w = .ok () (w.putObj m (.map es' clock'))) ∧ StrEs es' clock' ∧
      (∀ j, ssGet es'.toList j = if j = k then some v else ssGet es.toList j) ∧
      (∀ e', e' ∈ es' → (e'.key = .string k ∧ e'.val = v) ∨ (e' ∈ es ∧ e'.key ≠ .string k)) ∧ (∀ e, e ∈ es → e.key ≠ .string k → e ∈ es') := by
  obtain ⟨r, h1, h2, h3, h4⟩ := findNow_str es.toList (by simpa using he.key) k 0
  have hstart : ∀ (w : World), w.heap[m]? = some (.map es clock) → ∀ R : Result Unit, (Sem.run P (match r with
      | some (i, _) => do
        let key ← keyThatStays (((es[i]?).map (·.key)).getD (.string k)) (.string k)
        setObj m (.map (es.modify i fun e => { e with key, val := v }) clock)
      | none => setObj m (.map (es.push { key := .string k, val := v, born := clock }) (clock + 1))) w = R) → (Instr.mapUpdate T (.map (some m)) (.string k) v).run P w = R := by
    intro w hm R hR
    have hf : (findKey K (.string k) es.toList).run P w = .ok r w := by
      unfold findKey; simp [run_underlying hK, h1]
    have hc := run_checkKey_str (P := P) hK w
    have hg : (getObj m).run P w = .ok (.map es clock) w := by simp [getObj, Sem.run, hm]
    unfold Instr.mapUpdate
    simp only [Sem.run_bind, run_underlying hT, hg, Result.andThen_ok, Sem.run_pure]
    rw [hc, Result.andThen_ok, hf, Result.andThen_ok]
    exact hR
  have hs : ∀ (w : World), w.heap[m]? = some (.map es clock) → ∀ o, (setObj m o).run P w = .ok () (w.putObj m o) := by intro w hm o; simp [setObj, Sem.run, hm, World.putObj]
  cases r with
  | none =>
    have h4 := h4 rfl
    refine ⟨es.push ⟨.string k, v, clock⟩, clock + 1, fun w hm => hstart w hm _ (hs w hm _), ⟨?_, ?_, ?_, ?_⟩, ?_, ?_, ?_⟩
    · intro e hx
      rcases Array.mem_push.1 hx with hx | rfl
      · exact he.key e hx
      · exact ⟨k, rfl⟩
    · rw [Array.toList_push, List.map_append, List.nodup_append]
      refine ⟨he.nodup, by simp, ?_⟩
      intro a ha b hb
      simp at hb; subst hb
      rw [List.mem_map] at ha
      obtain ⟨e, hx, rfl⟩ := ha
      exact h4 e hx
    · intro e hx
      rcases Array.mem_push.1 hx with hx | rfl
      · have := he.born e hx; omega
      · simp
    · rw [Array.toList_push, List.map_append, List.nodup_append]
      refine ⟨he.borns, by simp, ?_⟩
      intro a ha b hb
      simp at hb; subst hb
      rw [List.mem_map] at ha
      obtain ⟨e, hx, rfl⟩ := ha
      have := he.born e (by simpa using hx)
      omega
    · intro j
      rw [Array.toList_push, ssGet_append]
      by_cases hj : j = k
      · subst hj; rw [if_pos rfl]; simp at h2; rw [← h2]; simp [ssGet]
      · rw [if_neg hj]
        cases ssGet es.toList j <;> simp [ssGet, Ne.symm hj]
    · intro e' hx
      rcases Array.mem_push.1 hx with hx | rfl
      · exact .inr ⟨hx, h4 e' (by simpa using hx)⟩
      · exact .inl ⟨rfl, rfl⟩
    · intro e hx _
      exact Array.mem_push.2 (.inl hx)
  | some x =>
    obtain ⟨-, e0, h5, h6⟩ := h3 x rfl
    obtain ⟨i, u⟩ := x
    simp only [Nat.sub_zero] at h5
    have hi : es[i]? = some e0 := by simpa using h5
    obtain ⟨hlt, hie⟩ := Array.getElem?_eq_some_iff.1 hi
    have hkt : ∀ w, (keyThatStays (((es[i]?).map (·.key)).getD (.string k)) (.string k)).run P w = .ok (.string k) w := by
      intro w; simp [hi, h6, keyThatStays, sameBits, ba_self]
    have hmod : (es.modify i fun e => { e with key := .string k, val := v }).toList = es.toList.set i { e0 with key := .string k, val := v } := by
      apply List.ext_getElem? ; intro j
      rw [List.getElem?_set]
      by_cases e : i = j
      · subst e; simp [hlt, Array.getElem?_modify, ← hie]
      · simp [Array.getElem?_modify, e]
    have hkeys : (es.toList.set i { e0 with key := .string k, val := v }).map (·.key) = es.toList.map (·.key) := by
      rw [List.map_set]
      apply List.ext_getElem?; intro j
      rw [List.getElem?_set]
      by_cases e : i = j
      · subst e; simp [hlt, hie, h6]
      · simp [e]
    have hborns : (es.toList.set i { e0 with key := .string k, val := v }).map (·.born) = es.toList.map (·.born) := by
      rw [List.map_set]
      apply List.ext_getElem?; intro j
      rw [List.getElem?_set]
      by_cases e : i = j
      · subst e; simp [hlt, ← hie]
      · simp [e]
    refine ⟨es.modify i fun e => { e with key := .string k, val := v }, clock, fun w hm => hstart w hm _ (by simp only [hkt, Sem.run_bind, Result.andThen_ok, hs w hm]), ⟨?_, by rw [hmod, hkeys]; exact he.nodup, ?_, by rw [hmod, hborns]; exact he.borns⟩, ?_, ?_, ?_⟩
    · intro e hx
      have : e.key ∈ es.toList.map (·.key) := by rw [← hkeys, ← hmod]; exact List.mem_map.2 ⟨e, Array.mem_toList_iff.2 hx, rfl⟩
      obtain ⟨e1, g1, g2⟩ := List.mem_map.1 this
      rw [← g2]; exact he.key e1 (by simpa using g1)
    · intro e hx
      have : e.born ∈ es.toList.map (·.born) := by rw [← hborns, ← hmod]; exact List.mem_map.2 ⟨e, Array.mem_toList_iff.2 hx, rfl⟩
      obtain ⟨e1, g1, g2⟩ := List.mem_map.1 this
      rw [← g2]; exact he.born e1 (by simpa using g1)
    · intro j
      rw [hmod]
      exact ssGet_set es.toList he.nodup (by simpa using he.key) i e0 (by simpa using hi) k h6 v j
    · intro e' hx
      have hx' : e' ∈ es.toList.set i { e0 with key := .string k, val := v } := by rw [← hmod]; exact Array.mem_toList_iff.2 hx
      obtain ⟨j, hj⟩ := List.getElem?_of_mem hx'
      rw [List.getElem?_set] at hj
      by_cases e : i = j
      · simp [e] at hj
        obtain ⟨_, rfl⟩ := hj
        exact .inl ⟨rfl, rfl⟩
      · simp only [e, if_false] at hj
        refine .inr ⟨by simpa using List.mem_of_getElem? hj, ?_⟩
        intro hk
        have a1 : (es.toList.map (·.key))[j]? = some (.string k) := by simp at hj; simp [hj, hk]
        have a2 : (es.toList.map (·.key))[i]? = some (.string k) := by simp [hi, h6]
        exact e ((List.getElem?_inj (by simpa using hlt) he.nodup).1 (a2.trans a1.symm))
    · intro e hx hk
      obtain ⟨j, hj⟩ := List.getElem?_of_mem (show e ∈ es.toList by simpa using hx)
      have hne : i ≠ j := by
        rintro rfl
        rw [h5] at hj; injection hj with hj; subst hj; exact hk h6
      have : (es.toList.set i { e0 with key := .string k, val := v })[j]? = some e := by rw [List.getElem?_set]; simp only [hne, if_false]; exact hj
      have := List.mem_of_getElem? this
      rw [← hmod] at this; exact Array.mem_toList_iff.1 this
end maps

end Go.Proofs.YtlaepkmnbbgbcaaGreatDoor
/- Ranging over the operations. -/
namespace Go.Proofs.YtlaepkmnbbgbcaaGreatDoor
open Go.RowKit Go.Instr Go.Shelf
set_option linter.unusedVariables false
set_option linter.unusedSimpArgs false
attribute [local go_sem] Oper.semAt_some

theorem esGet_of_mem {es : List MapEntry} (hn : (es.map (·.key)).Nodup) (hk : ∀ e ∈ es, ∃ k, e.key = .int .i64 k) {e : MapEntry} (he : e ∈ es) {k : Int} (h : e.key = .int .i64 k) : esGet es k = some e.val := by
  induction es with
  | nil => cases he
  | cons x r ih =>
    simp only [List.map_cons, List.nodup_cons] at hn
    obtain ⟨n, hx⟩ := hk x (by simp)
    simp only [esGet, hx]
    rcases List.mem_cons.1 he with rfl | he
    · rw [hx] at h; injection h with _ h; rw [if_pos h]
    · rw [if_neg, ih hn.2 (fun e he => hk e (by simp [he])) he]
      rintro rfl
      exact hn.1 (List.mem_map.2 ⟨e, he, by rw [h, hx]⟩)
/-- What an entry of the operations' map is. -/
def EnOp (w : World) (T : List Op1) (e : MapEntry) (o : Op1) : Prop := o ∈ T ∧ e.key = .int .i64 o.key ∧ ∃ va vb, e.val = .agg #[.string o.name, va, vb] ∧ CkV w va o.a ∧ CkV w vb o.b
/-- The map and the iterator under way: what has been seen. -/
structure Rng (w : World) (m r : Nat) (T : List Op1) (es : Array MapEntry) (ck : Nat) (seen : Array Nat) : Prop where
  map : w.heap[m]? = some (.map es ck)
  it : ∃ c0, w.heap[r]? = some (.mapIter (some m) ck seen c0) ∧ ck ≤ c0
  ok : IntEs es ck
  en : ∀ e ∈ es, ∃ o, EnOp w T e o
  all : ∀ o ∈ T, ∃ e ∈ es, e.key = .int .i64 o.key
theorem find_key {T : List Op1} (hn : (T.map (·.key)).Nodup) {o : Op1} (ho : o ∈ T) : T.find? (fun x => decide (x.key = o.key)) = some o := by
  induction T with
  | nil => cases ho
  | cons x r ih =>
    simp only [List.map_cons, List.nodup_cons] at hn
    rcases List.mem_cons.1 ho with rfl | ho
    · simp
    · rw [List.find?_cons_of_neg (by
        simp only [decide_eq_true_eq]
        intro e
        exact hn.1 (List.mem_map.2 ⟨o, ho, e.symm⟩)), ih hn.2 ho]
theorem opT_keys : (opT.map (·.key)).Nodup := by decide +kernel
theorem EnOp.ext {w w' : World} {T : List Op1} {e : MapEntry} {o : Op1} (h : EnOp w T e o) (hx : Ex w w') : EnOp w' T e o := by
  obtain ⟨h1, h2, va, vb, h3, h4, h5⟩ := h
  exact ⟨h1, h2, va, vb, h3, h4.ext hx, h5.ext hx⟩
/-- range begins. -/
theorem Rng.begin {w : World} {m : Nat} (h : RD w m opT) : ∃ es ck, w.heap[m]? = some (.map es ck) ∧ Rng (w.alloc (.mapIter (some m) ck #[] ck)) m w.heap.size opT es ck #[] := by
  obtain ⟨F, ⟨es, ck, e1, e2, e3⟩, hall⟩ := h
  have hlt := (Array.getElem?_eq_some_iff.1 e1).1
  have hx : Ex w (w.alloc (.mapIter (some m) ck #[] ck)) := (Keeps.refl _ w).alloc _
  refine ⟨es, ck, e1, ⟨(Below.heap_alloc _ _ _ hlt).trans e1, ⟨ck, World.alloc_heap_new _ _, Nat.le_refl _⟩, e2, ?_, ?_⟩⟩
  · intro e he
    obtain ⟨k, hk⟩ := e2.key e he
    have h2 := esGet_of_mem e2.nodup (by simpa using e2.key) (by simpa using he) hk
    rw [e3] at h2
    have h3 := hall k
    cases hf : opT.find? (fun o => decide (o.key = k)) with
    | none => rw [hf] at h3; rw [h3] at h2; cases h2
    | some o =>
      rw [hf] at h3
      obtain ⟨va, vb, h4, h5, h6⟩ := h3
      have hok : o.key = k := by simpa using List.find?_some hf
      rw [h4] at h2
      injection h2 with h2
      exact ⟨o, List.mem_of_find?_eq_some hf, by rw [hk, hok], va, vb, h2.symm, h5.ext hx, h6.ext hx⟩
  · intro o ho
    have h3 := hall o.key
    rw [find_key opT_keys ho] at h3
    obtain ⟨va, vb, h4, -⟩ := h3
    rw [← e3] at h4
    obtain ⟨e, he, ⟨q, hq⟩, -⟩ := esGet_mem h4
    obtain ⟨k, hk⟩ := e2.key e (by simpa using he)
    rw [hk] at hq; injection hq with hq1 hq2
    exact ⟨e, by simpa using he, by rw [hk, hq2]⟩
theorem Rng.keep {w w' : World} {m r : Nat} {T : List Op1} {es : Array MapEntry} {ck : Nat} {seen : Array Nat} {S : Nat → Prop} (h : Rng w m r T es ck seen) (hx : Keeps S w w') (hm : ¬ S m) (hr : ¬ S r) (hc : ∀ k o, w.heap[k]? = some o → o.isCells = true → ¬ S k) : Rng w' m r T es ck seen := by
  obtain ⟨c0, h1, h2⟩ := h.it
  refine ⟨hx.obj h.map hm, ⟨c0, hx.obj h1 hr, h2⟩, h.ok, fun e he => ?_, h.all⟩
  obtain ⟨o, e1, e2, va, vb, e3, e4, e5⟩ := h.en e he
  have kp : ∀ {v : Value} {c : Ck}, CkV w v c → CkV w' v c := by
    intro v c h
    cases c with
    | none => exact h
    | btw lo hi => obtain ⟨b1, b2, e, h1, h2⟩ := h; exact ⟨b1, b2, e, hx.blk h1 (hc _ _ h1 rfl), hx.blk h2 (hc _ _ h2 rfl)⟩
    | idx f => obtain ⟨b, e, h1⟩ := h; exact ⟨b, e, hx.blk h1 (hc _ _ h1 rfl)⟩
    | int => exact h
    | text => exact h
  exact ⟨o, e1, e2, va, vb, e3, kp e4, kp e5⟩
theorem Rng.left {w : World} {m r : Nat} {T : List Op1} {es : Array MapEntry} {ck : Nat} {seen : Array Nat} (h : Rng w m r T es ck seen) : w.rangeLeft m r = (leftOf es seen).size := by
  obtain ⟨c0, h1, h2⟩ := h.it
  simp only [World.rangeLeft, h.map, h1]
/-- The step. -/
theorem wpList_next_op {w : World} {ops : Array Oper} {rest : List Oper} {o : Oper} {a : Act} {Q : Exit → Act → World → Prop} (hg : o.guard = none) (it : Operand) (hop : o.op = Op.next it false)
    {m r : Nat} {T : List Op1} {es : Array MapEntry} {ck : Nat} {seen : Array Nat} (hit : a.eval it = .pointer (some ⟨r, 0, none⟩)) (h : Rng w m r T es ck seen)
    (hDone : (∀ x ∈ es, seen.contains x.born = true) → wpList Tryz.prog ops Q rest (a.put o.dst (.tuple #[.bool false])) w)
    (hMore : ∀ (e : MapEntry) (q : Op1) (va vb : Value) (w' : World), e ∈ es → seen.contains e.born = false → EnOp w' T e q → e.val = .agg #[.string q.name, va, vb] → CkV w' va q.a → CkV w' vb q.b → Keeps (· = r) w w' → w'.heap.size = w.heap.size → Rng w' m r T es ck (seen.push e.born) → (leftOf es (seen.push e.born)).size < (leftOf es seen).size →
      (Instr.entry (.pointer (some ⟨r, 0, none⟩))).run Tryz.prog w' = .ok (.tuple #[.int .i64 q.key, .agg #[.string q.name, va, vb]]) w' → wpList Tryz.prog ops Q rest (a.put o.dst (.tuple #[.bool true, .int .i64 q.key, .agg #[.string q.name, va, vb]])) w') :
    wpList Tryz.prog ops Q (o :: rest) a w := by
  refine wpList_plain hg fun K' hK' => ?_
  obtain ⟨c0, hr, hc0⟩ := h.it
  have hold : ∀ x ∈ es.toList, x.born < ck := fun x hx => h.ok.born x (by simpa using hx)
  unfold Oper.wp
  rcases run_next_at (P := Tryz.prog) w o.type r m ck c0 seen es ck hr h.map hold hc0 with ⟨h0, hrun⟩ | ⟨e, he, w1, hal, hrun⟩
  · simp [execOp, hop, hit, hrun, Result.andThen]
    exact hK' _ _ (hDone fun x hx => all_seen es seen h0 x (by simpa using hx))
  · obtain ⟨hem, hes⟩ := mem_left he
    have hem' : e ∈ es := by simpa using hem
    obtain ⟨q, e1, e2, va, vb, e3, e4, e5⟩ := h.en e hem'
    have hr1 : w1.heap[r]? = some (.mapIter (some m) ck seen c0) := by rcases hal with rfl | rfl <;> exact hr
    have hb1 : w1.heap[m]? = some (.map es ck) := by rcases hal with rfl | rfl <;> exact h.map
    have hne : m ≠ r := by rintro rfl; rw [hr1] at hb1; cases hb1
    obtain ⟨W, hW⟩ : ∃ W, ChangeMaps.setBlock w1 r (.mapIter (some m) ck (seen.push e.born) ck) = W := ⟨_, rfl⟩
    have hset := MapKept.heap_set (o' := .mapIter (some m) ck (seen.push e.born) ck) hr1
    have hset : W.heap[r]? = some (.mapIter (some m) ck (seen.push e.born) ck) ∧ ∀ k, k ≠ r → W.heap[k]? = w1.heap[k]? := by rw [← hW]; exact hset
    rw [hW] at hrun
    have hk : Keeps (· = r) w W := by
      have : Keeps (· = r) w1 W := by rw [← hW]; exact ⟨rfl, rfl, rfl, by simp [ChangeMaps.setBlock], fun k hk hn => by rw [hW]; exact hset.2 k hn⟩
      rcases hal with rfl | rfl
      · exact this
      · exact ⟨this.os, this.tape, this.output, this.size, this.block⟩
    have hm' : W.heap[m]? = some (.map es ck) := (hset.2 m hne).trans hb1
    have hrng : Rng W m r T es ck (seen.push e.born) := by
      have hnc : ∀ k o, w.heap[k]? = some o → o.isCells = true → ¬ k = r := by rintro k o h1 h2 rfl; rw [hr] at h1; injection h1 with h1; subst h1; cases h2
      have kp : ∀ {v : Value} {c : Ck}, CkV w v c → CkV W v c := by
        intro v c h
        cases c with
        | none => exact h
        | btw lo hi => obtain ⟨b1, b2, e, h1, h2⟩ := h; exact ⟨b1, b2, e, hk.blk h1 (hnc _ _ h1 rfl), hk.blk h2 (hnc _ _ h2 rfl)⟩
        | idx f => obtain ⟨b, e, h1⟩ := h; exact ⟨b, e, hk.blk h1 (hnc _ _ h1 rfl)⟩
        | int => exact h
        | text => exact h
      refine ⟨hm', ⟨ck, hset.1, Nat.le_refl _⟩, h.ok, fun e he => ?_, h.all⟩
      obtain ⟨q, e1, e2, va, vb, e3, e4, e5⟩ := h.en e he
      exact ⟨q, e1, e2, va, vb, e3, kp e4, kp e5⟩
    obtain ⟨q', f1, f2, va', vb', f3, f4, f5⟩ := hrng.en e hem'
    have hen := run_entry_at (P := Tryz.prog) W r m ck seen es ck e hset.1 hm' hem h.ok.borns
    rw [f2, f3] at hen
    rw [f2, f3] at hrun
    simp [execOp, hop, hit, hrun, Result.andThen]
    exact hK' _ _ (hMore e q' va' vb' W hem' hes ⟨f1, f2, va', vb', f3, f4, f5⟩ f3 f4 f5 hk (by rcases hal with rfl | rfl <;> simp [← hW, ChangeMaps.setBlock]) hrng (left_shrinks es seen e he) hen)
/-- What the map of names has, once these entries have been seen. -/
structure NameT (es : Array MapEntry) (es' : List MapEntry) (seen : Array Nat) : Prop where
  dom : ∀ nm v, ssGet es' nm = some v → ∃ o ∈ opT, o.name = nm ∧ v = .int .i64 o.key
  all : ∀ e ∈ es, seen.contains e.born = true → ∀ o ∈ opT, e.key = .int .i64 o.key → ssGet es' o.name = some (.int .i64 o.key)
theorem NameT.empty (es : Array MapEntry) : NameT es [] #[] := ⟨fun nm v h => (by cases h), fun e _ h => (by simp at h)⟩
theorem opT_names_nodup : (opT.map (·.name.data.toList)).Nodup := by decide +kernel
theorem opT_name_inj {a b : Op1} (ha : a ∈ opT) (hb : b ∈ opT) (h : a.name = b.name) : a = b :=
  inj_on_of_nodup_map opT_names_nodup ha hb (by show a.name.data.toList = b.name.data.toList; rw [h])
theorem opT_key_inj {a b : Op1} (ha : a ∈ opT) (hb : b ∈ opT) (h : a.key = b.key) : a = b := inj_on_of_nodup_map opT_keys ha hb h
theorem NameT.step {es : Array MapEntry} {ck : Nat} (hok : IntEs es ck) {es' es2 : List MapEntry} {seen : Array Nat} (h : NameT es es' seen) {q : Op1} (hq : q ∈ opT) {e : MapEntry} (he : e ∈ es) (hk : e.key = .int .i64 q.key)
    (h2 : ∀ j, ssGet es2 j = if j = q.name then some (.int .i64 q.key) else ssGet es' j) : NameT es es2 (seen.push e.born) := by
  refine ⟨fun nm v hv => ?_, fun x hx hs o ho hxk => ?_⟩
  · rw [h2] at hv
    by_cases hn : nm = q.name
    · rw [if_pos hn] at hv; injection hv with hv; exact ⟨q, hq, hn.symm, hv.symm⟩
    · rw [if_neg hn] at hv; exact h.dom nm v hv
  · rw [h2]
    by_cases hn : o.name = q.name
    · rw [if_pos hn, opT_name_inj ho hq hn]
    · rw [if_neg hn]
      rw [contains_push] at hs
      rcases Bool.or_eq_true _ _ ▸ hs with hs | hs
      · exact h.all x hx hs o ho hxk
      · exfalso
        have hb : x.born = e.born := by simpa using hs
        have : x = e := inj_on_of_nodup_map hok.borns (by simpa using hx) (by simpa using he) hb
        subst this
        rw [hk] at hxk; injection hxk with _ hxk
        exact hn (by rw [opT_key_inj ho hq hxk.symm])
end Go.Proofs.YtlaepkmnbbgbcaaGreatDoor
