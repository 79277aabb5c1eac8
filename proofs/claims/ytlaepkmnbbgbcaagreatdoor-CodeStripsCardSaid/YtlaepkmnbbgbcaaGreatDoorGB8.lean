/- Check: what it finds first, in plain Lean; its closures that look at labels. Check. The shelf's contracts for slices of ints (DeleteFunc, Sort, Compact), laid at this program (written by the kit's lay-shelf and lay-plain, cut down by wip/tools/prune.py). Rows of ints of the call's own: DeleteFunc, Sort, Compact. -/
import Derived.Test.YtlaepkmnbbgbcaaGreatDoorGB7
import Derived.Test.YtlaepkmnbbgbcaaGreatDoorGB5
import Derived.Test.YtlaepkmnbbgbcaaGreatDoorGB6
import Derived.Test.YtlaepkmnbbgbcaaGreatDoorGB1
import Derived.Shelf.SlicesE.DeleteFunc
import Derived.Shelf.Sort.Plain
import Derived.Shelf.Slices.In.SortNone
import Derived.Shelf.Slices.CompactI
import Derived.Shelf.Slices.Cells
import Derived.Shelf.SlicesE.IndexFunc
import Derived.Test.YtlaepkmnbbgbcaaGreatDoorGB3
import Derived.Lib.OwnBridge
import Derived.Lib.RowBridge
import Derived.Sort.OwnSortedInts
/- Check: what it finds first, in plain Lean; its closures that look at labels. -/
namespace Go.Proofs.YtlaepkmnbbgbcaaGreatDoor
open Go.RowKit Go.Instr
set_option linter.unusedVariables false
set_option linter.unusedSimpArgs false
attribute [local go_sem] Oper.semAt_some

/-- Too few or too many elements. -/
abbrev Lim (c : Co) : Prop := c.instrs.length = 0 ∨ c.descs.length = 0 ∨ 20000 < c.instrs.length ∨ 2000 < c.descs.length ∨ 2000 < c.labels.length ∨ 2000 < c.texts.length ∨ 2000 < c.reals.length
def badL (c : Co) (l : Int × Int) : Bool := !insideB c l.1 || !insideB c l.2
theorem chk_lim {c : Co} (h : Lim c) : chk c = (2, -1) := by unfold chk; exact if_pos h
theorem find_range {n k : Nat} {p : Nat → Bool} (hk : k < n) (hall : ∀ j, j < k → p j = true) (hf : p k = false) : (List.range n).find? (fun i => !p i) = some k := by
  rw [List.find?_range_eq_some]
  exact ⟨by rw [hf]; rfl, List.mem_range.2 hk, fun j hj => by rw [hall j hj]; rfl⟩
theorem find_range_none {n : Nat} {p : Nat → Bool} (hall : ∀ j, j < n → p j = true) : (List.range n).find? (fun i => !p i) = none := by
  simp only [List.find?_eq_none, List.mem_range, Bool.not_eq_true', Bool.not_eq_false]; exact hall
theorem chk_desc {c : Co} (hl : ¬ Lim c) {k : Nat} (hk : k < c.descs.length) (hall : ∀ j, j < k → descB c j = true) (hf : descB c k = false) : chk c = (3, (k : Int)) := by
  unfold chk; rw [if_neg hl, find_range hk hall hf]
theorem idxI_match {α : Type} {p : α → Bool} {l : List α} (h : 0 ≤ idxI p l) : ∃ i : Nat, l.findIdx? p = some i ∧ idxI p l = i := by
  unfold idxI at h ⊢
  cases hf : l.findIdx? p with
  | none => rw [hf] at h; simp at h
  | some i => exact ⟨i, rfl, rfl⟩
theorem idxI_neg {α : Type} {p : α → Bool} {l : List α} (h : ¬ 0 ≤ idxI p l) : l.findIdx? p = none ∧ ∀ x ∈ l, p x = false := by
  have h1 : l.any p = false := by
    cases e : l.any p with
    | false => rfl
    | true => exact (h ((idxI_ge p l).2 e)).elim
  refine ⟨?_, fun x hx => by simpa using List.any_eq_false.1 h1 x hx⟩
  rw [List.findIdx?_eq_none_iff]; intro x hx; simpa using List.any_eq_false.1 h1 x hx
theorem chk_label {c : Co} (hl : ¬ Lim c) (hd : ∀ j, j < c.descs.length → descB c j = true) (hi : 0 ≤ idxI (badL c) c.labels) : chk c = (3, idxI (badL c) c.labels) := by
  obtain ⟨i, h1, h2⟩ := idxI_match hi
  unfold chk; rw [if_neg hl, find_range_none hd]
  simp only
  rw [show (c.labels.findIdx? fun l => !insideB c l.1 || !insideB c l.2) = some i from h1, h2]
theorem chk_text {c : Co} (hl : ¬ Lim c) (hd : ∀ j, j < c.descs.length → descB c j = true) (h1 : ¬ 0 ≤ idxI (badL c) c.labels) (hi : 0 ≤ idxI (fun s => !plainB s) c.texts) : chk c = (3, idxI (fun s => !plainB s) c.texts) := by
  obtain ⟨i, h2, h3⟩ := idxI_match hi
  unfold chk; rw [if_neg hl, find_range_none hd]
  simp only
  rw [show (c.labels.findIdx? fun l => !insideB c l.1 || !insideB c l.2) = none from (idxI_neg h1).1]
  simp only
  rw [h2, h3]
theorem chk_real {c : Co} (hl : ¬ Lim c) (hd : ∀ j, j < c.descs.length → descB c j = true) (h1 : ¬ 0 ≤ idxI (badL c) c.labels) (h2 : ¬ 0 ≤ idxI (fun s => !plainB s) c.texts) (hi : 0 ≤ idxI (fun x => !realB x) c.reals) : chk c = (3, idxI (fun x => !realB x) c.reals) := by
  obtain ⟨i, h3, h4⟩ := idxI_match hi
  unfold chk; rw [if_neg hl, find_range_none hd]
  simp only
  rw [show (c.labels.findIdx? fun l => !insideB c l.1 || !insideB c l.2) = none from (idxI_neg h1).1]
  simp only
  rw [(idxI_neg h2).1]
  simp only
  rw [h3, h4]
theorem chk_tail {c : Co} (hl : ¬ Lim c) (hd : ∀ j, j < c.descs.length → descB c j = true) (h1 : ¬ 0 ≤ idxI (badL c) c.labels) (h2 : ¬ 0 ≤ idxI (fun s => !plainB s) c.texts) (h3 : ¬ 0 ≤ idxI (fun x => !realB x) c.reals) : chk c = match c.instrs.findIdx? fun x => decide (insE c x ≠ 0) with
  | some i => (insE c (c.instrs.getD i default), (i : Int))
  | none => (0, -1) := by
  unfold chk; rw [if_neg hl, find_range_none hd]
  simp only
  rw [show (c.labels.findIdx? fun l => !insideB c l.1 || !insideB c l.2) = none from (idxI_neg h1).1]
  simp only
  rw [(idxI_neg h2).1]
  simp only
  rw [(idxI_neg h3).1]
  rfl
theorem chk_instr {c : Co} (ht : chk c = match c.instrs.findIdx? fun x => decide (insE c x ≠ 0) with
  | some i => (insE c (c.instrs.getD i default), (i : Int))
  | none => (0, -1)) {k : Nat} {x : Ins} (hx : c.instrs[k]? = some x) (hall : ∀ j y, j < k → c.instrs[j]? = some y → insE c y = 0) (hf : insE c x ≠ 0) : chk c = (insE c x, (k : Int)) := by
  have h1 : c.instrs.findIdx? (fun x => decide (insE c x ≠ 0)) = some k := by
    rw [List.findIdx?_eq_some_iff_getElem]
    obtain ⟨hk, e⟩ := List.getElem?_eq_some_iff.1 hx
    refine ⟨hk, by rw [e]; simpa using hf, fun j hj => ?_⟩
    have := hall j c.instrs[j] hj (List.getElem?_eq_getElem (by omega))
    simp [this]
  rw [ht, h1]
  simp only
  rw [List.getD_eq_getElem?_getD, hx]; rfl
theorem chk_ok {c : Co} (ht : chk c = match c.instrs.findIdx? fun x => decide (insE c x ≠ 0) with
  | some i => (insE c (c.instrs.getD i default), (i : Int))
  | none => (0, -1)) (hall : ∀ j y, j < c.instrs.length → c.instrs[j]? = some y → insE c y = 0) : chk c = (0, -1) := by
  have h1 : c.instrs.findIdx? (fun x => decide (insE c x ≠ 0)) = none := by
    rw [List.findIdx?_eq_none_iff]
    intro x hx
    obtain ⟨j, hj, e⟩ := List.getElem_of_mem hx
    have := hall j x hj (by rw [List.getElem?_eq_getElem hj, e])
    simp [this]
  rw [ht, h1]

/-! ### The closures -/
theorem inside_any {w : World} {b0 : Nat} {dv lv tv rv : Value} {ia : Option Addr} {ic : Nat} {c : Co} (hB : Blk w b0 #[dv, lv, tv, rv, .slice ia c.instrs.length ic] 28) (hi : c.instrs.length ≤ 1000000) (n : Int) :
    Calls Tryz.prog 63 #[.int .i64 n, .pointer (some ⟨b0, 0, none⟩)] w fun e w' => e = .returned (.bool (insideB c n)) ∧ w' = w := by
  have x4 : w.cell? ⟨b0, 4, none⟩ = some (.slice ia c.instrs.length ic) := (hB.cell 4).trans rfl
  clear hB
  have hI : insideB c n = (decide (0 ≤ n) && decide (n < (c.instrs.length : Nat))) := rfl
  rw [hI]
  by_cases k1 : 0 ≤ n
  · rw [decide_eq_true k1, Bool.true_and]
    clear hI
    go_enter Tryz.func63, Tryz.ntmps63
    go_wp2
    go_ret
    exact ⟨rfl, rfl⟩
  · rw [decide_eq_false k1, Bool.false_and]
    clear hI
    go_enter Tryz.func63, Tryz.ntmps63
    go_wp2
    go_ret
    exact ⟨rfl, rfl⟩
set_option maxRecDepth 100000 in
theorem check2_any {w : World} {b0 b5 : Nat} {dv lv tv rv : Value} {ia : Option Addr} {ic : Nat} {c : Co} (hB : Blk w b0 #[dv, lv, tv, rv, .slice ia c.instrs.length ic] 28) (hF : Blk w b5 #[.func (.func 63) #[] #[.pointer (some ⟨b0, 0, none⟩)]] 64) (hi : c.instrs.length ≤ 1000000) (l : Int × Int) :
    Calls Tryz.prog 65 #[.agg #[.int .i64 l.1, .int .i64 l.2], .pointer (some ⟨b5, 0, none⟩)] w fun e w' => e = .returned (.bool (badL c l)) ∧ Ex w w' := by
  obtain ⟨W1, hW1⟩ : ∃ W1, w.alloc (.cells #[.int .i64 l.1, .int .i64 l.2] 90) = W1 := ⟨_, rfl⟩
  obtain ⟨bx, hbx⟩ : ∃ bx, w.heap.size = bx := ⟨_, rfl⟩
  have hX1 : Ex w W1 := by rw [← hW1]; exact (Keeps.refl _ w).alloc _
  have hBx : Blk W1 bx #[.int .i64 l.1, .int .i64 l.2] 90 := by rw [← hW1, ← hbx]; exact Blk.new w _ _
  have x0 : W1.cell? ⟨bx, 0, none⟩ = some (.int .i64 l.1) := (hBx.cell 0).trans rfl
  have x1 : W1.cell? ⟨bx, 1, none⟩ = some (.int .i64 l.2) := (hBx.cell 1).trans rfl
  have f0 : W1.cell? ⟨b5, 0, none⟩ = some (.func (.func 63) #[] #[.pointer (some ⟨b0, 0, none⟩)]) := ((hX1.blk hF id).cell 0).trans rfl
  have c1 := inside_any (hX1.blk hB id) hi l.1
  have c2 := inside_any (hX1.blk hB id) hi l.2
  have hbd : badL c l = (!insideB c l.1 || !insideB c l.2) := rfl
  rw [hbd]
  generalize insideB c l.1 = q1 at *
  generalize insideB c l.2 = q2 at *
  generalize l.1 = n1 at *
  generalize l.2 = n2 at *
  have H1 := Lib.hid c1; have H2 := Lib.hid c2; have HX1 := Lib.hid hX1; have HW1 := Lib.hid hW1; have Hbx := Lib.hid hbx
  clear c1 c2 hX1 hW1 hbx hBx hB hF hbd
  cases q1 with
  | false =>
    go_enter Tryz.func65, Tryz.ntmps65
    go_upto_region 1 with fail
    rw [HW1.out]
    try rw [Hbx.out]
    go_wp2_with (go_at_call 63; refine H1.out.mono ?_; rintro e w2 ⟨rfl, rfl⟩)
    go_ret
    exact ⟨rfl, HX1.out⟩
  | true =>
    go_enter Tryz.func65, Tryz.ntmps65
    go_upto_region 1 with fail
    rw [HW1.out]
    try rw [Hbx.out]
    go_wp2_with fail
    refine H1.out.mono ?_
    rintro e w2 ⟨rfl, rfl⟩
    go_wp2_with fail
    refine H2.out.mono ?_
    rintro e w3 ⟨rfl, rfl⟩
    go_wp2_with fail
    go_ret
    exact ⟨rfl, HX1.out⟩
end Go.Proofs.YtlaepkmnbbgbcaaGreatDoor
/- Check. -/
namespace Go.Proofs.YtlaepkmnbbgbcaaGreatDoor
open Go.RowKit Go.Instr
set_option linter.unusedVariables false
set_option linter.unusedSimpArgs false
attribute [local go_sem] Oper.semAt_some

theorem descFits_any {w : World} {dv lv tv rv iv : Value} {c : Co} {xs : List DeV} (h : RdCo w dv lv tv rv iv c xs) (hb : Big c) (i : Nat) (hi : i < c.descs.length) :
    Calls Tryz.prog 62 #[codeV dv lv tv rv iv, .int .i64 i] w fun e w' => e = .returned (.bool (descB c i)) ∧ Ex w w' := by
  by_cases h1 : -1 ≤ (c.de i).around
  · by_cases h2 : (c.de i).around < i
    · cases h3 : chainB c i (c.de i) with
      | false => exact descFits_early h hb i hi (.inr (.inr h3))
      | true =>
        cases h4 : (c.de i).chain.length with
        | zero => rw [chainB_empty h4] at h3; cases h3
        | succ m =>
          cases m with
          | zero => exact descFits_one h hb i hi h1 h2 h3 h4
          | succ m => exact descFits_more h hb i hi h1 h2 h3 m h4
    · exact descFits_early h hb i hi (.inr (.inl h2))
  · exact descFits_early h hb i hi (.inl h1)

def mx (x y : Int) : Int := if y > x then y else x
theorem mx_gt (n x y : Int) : n < mx x y ↔ n < x ∨ n < y := by unfold mx; split <;> omega
theorem run_max_int4 {P : Program} (ts : Array TypeId) (t : TypeId) (x y z u : Int) (w : World) : (Builtin.max_ ts t #[.int .i64 x, .int .i64 y, .int .i64 z, .int .i64 u]).run P w = .ok (.int .i64 (mx (mx (mx x y) z) u)) w := by
  have h : ∀ a b : Int, (Builtin.max2 (.int .i64 a) (.int .i64 b)).run P w = .ok (.int .i64 (mx a b)) w := by
    intro a b; simp [Builtin.max2, mx, go_sem]
  simp [Builtin.max_, h]
theorem enters_check2 (args : Array Value) (w : World) : (callFunc 65 args).run Tryz.prog w = .ok (.enter 65 args) w := enters_of Tryz.func65 (by kernel_rfl) rfl args w
theorem enters_check3 (args : Array Value) (w : World) : (callFunc 67 args).run Tryz.prog w = .ok (.enter 67 args) w := enters_of Tryz.func67 (by kernel_rfl) rfl args w
theorem enters_check4 (args : Array Value) (w : World) : (callFunc 70 args).run Tryz.prog w = .ok (.enter 70 args) w := enters_of Tryz.func70 (by kernel_rfl) rfl args w
/-- The cells of an instruction. -/
theorem RdL.insCells {w : World} {ad : Addr} {n cp : Nat} {l : List Ins} (h : RdL encN w (.slice (some ad) n cp) l) {k : Nat} {x : Ins} (hx : l[k]? = some x) {A : Addr} (hA : ad.add (k * 3) = A) :
    w.cell? A = some (.int .i64 x.op) ∧ w.cell? ⟨A.block, A.off + 1, none⟩ = some (.int .i64 x.a) ∧ w.cell? ⟨A.block, A.off + 2, none⟩ = some (.int .i64 x.b) := by
  subst hA
  have g := fun j hj => h.at encN_len hx j hj
  exact ⟨by have := g 0 (by omega); rw [Addr.add_zero'] at this; exact this.trans rfl, (g 1 (by omega)).trans rfl, (g 2 (by omega)).trans rfl⟩
/-- What Check answers. -/
def ChkR (w : World) (c : Co) (e : Ending) (w' : World) : Prop := e = .returned (.tuple #[.int .i64 (chk c).1, .int .i64 (chk c).2]) ∧ Ex w w'
theorem ChkR.of {w w' : World} {c : Co} {a b : Int} (h : chk c = (a, b)) (hx : Ex w w') : ChkR w c (.returned (.tuple #[.int .i64 a, .int .i64 b])) w' := ⟨by rw [h], hx⟩
set_option maxRecDepth 100000 in
set_option maxHeartbeats 8000000 in
theorem Check_any {w : World} {dv lv tv rv iv : Value} {c : Co} {xs : List DeV} (h : RdCo w dv lv tv rv iv c xs) (hb : Big c) :
    Calls Tryz.prog 26 #[codeV dv lv tv rv iv] w (ChkR w c) := by
  obtain ⟨da, dc, rfl, -⟩ := id h.ds
  obtain ⟨la, lc, rfl, -⟩ := id h.ls
  obtain ⟨ta, tc, rfl, -⟩ := id h.ts
  obtain ⟨ra, rc, rfl, -⟩ := id h.rs
  obtain ⟨ia, ic, rfl, -, hi1, -⟩ := id h.is
  obtain ⟨W1, hW1⟩ : ∃ W1, w.alloc (.cells #[.slice da xs.length dc, .slice la c.labels.length lc, .slice ta c.texts.length tc, .slice ra c.reals.length rc, .slice ia c.instrs.length ic] 28) = W1 := ⟨_, rfl⟩
  obtain ⟨b0, hb0⟩ : ∃ b0, w.heap.size = b0 := ⟨_, rfl⟩
  have hX1 : Ex w W1 := by rw [← hW1]; exact (Keeps.refl _ w).alloc _
  have hB0 : Blk W1 b0 #[.slice da xs.length dc, .slice la c.labels.length lc, .slice ta c.texts.length tc, .slice ra c.reals.length rc, .slice ia c.instrs.length ic] 28 := by rw [← hW1, ← hb0]; exact Blk.new w _ _
  have hxl := h.len
  have HF0 : ∀ V, Ex W1 V → Hid (V.cell? ⟨b0, 0, none⟩ = some (.slice da xs.length dc) ∧ V.cell? ⟨b0, 1, none⟩ = some (.slice la c.labels.length lc) ∧ V.cell? ⟨b0, 2, none⟩ = some (.slice ta c.texts.length tc) ∧ V.cell? ⟨b0, 3, none⟩ = some (.slice ra c.reals.length rc) ∧ V.cell? ⟨b0, 4, none⟩ = some (.slice ia c.instrs.length ic)) := fun V hV =>
    ⟨((hV.blk hB0 id).cell 0).trans rfl, ((hV.blk hB0 id).cell 1).trans rfl, ((hV.blk hB0 id).cell 2).trans rfl, ((hV.blk hB0 id).cell 3).trans rfl, ((hV.blk hB0 id).cell 4).trans rfl⟩
  have H := Lib.hid h; have HX1 := Lib.hid hX1; have HB0 := Lib.hid hB0; have HW1 := Lib.hid hW1; have Hb0 := Lib.hid hb0; have HN := Lib.hid hxl; have Hb := Lib.hid hb; have Hi1 := Lib.hid hi1
  have l1 : xs.length ≤ 1000000 := by have := hb.d; omega
  have l2 := hb.l; have l3 := hb.t; have l4 := hb.r; have l5 := hb.i
  clear h hX1 hB0 hW1 hb0 hxl hb hi1
  generalize hM : ChkR w c = M
  have HM := Lib.hid hM
  clear hM
  unfold codeV
  go_enter Tryz.func26, Tryz.ntmps26
  go_upto_region 1 with fail
  rw [HW1.out]
  try rw [Hb0.out]
  obtain ⟨x0, x1, x2, x3, x4⟩ := (HF0 W1 (Keeps.refl _ _)).out
  by_cases k1 : c.instrs.length = 0
  · have hc := chk_lim (c := c) (.inl k1)
    rw [k1] at x4
    go_wp2_with fail
    rw [← HM.out]
    exact ChkR.of hc HX1.out
  by_cases k2 : xs.length = 0
  · have hc := chk_lim (c := c) (.inr (.inl (by rw [← HN.out]; exact k2)))
    have k1' : ((c.instrs.length : Int) == 0) = false := by rw [beq_eq_false_iff_ne]; omega
    rw [k2] at x0
    go_wp2_with fail
    rw [← HM.out]
    exact ChkR.of hc HX1.out
  have k1' : ((c.instrs.length : Int) == 0) = false := by rw [beq_eq_false_iff_ne]; omega
  have k2' : ((xs.length : Int) == 0) = false := by rw [beq_eq_false_iff_ne]; omega
  by_cases k3 : (20000 : Int) < c.instrs.length
  · have hc := chk_lim (c := c) (.inr (.inr (.inl (by omega))))
    go_wp2_with fail
    rw [← HM.out]
    exact ChkR.of hc HX1.out
  have hq := fun W => run_max_int4 (P := Tryz.prog) #[3, 3, 3, 3] 3 (xs.length : Nat) (c.labels.length : Nat) (c.texts.length : Nat) (c.reals.length : Nat) W
  have hmx := mx_gt
  obtain ⟨MX, hMX⟩ : ∃ MX, mx (mx (mx (xs.length : Nat) (c.labels.length : Nat)) (c.texts.length : Nat)) (c.reals.length : Nat) = MX := ⟨_, rfl⟩
  rw [hMX] at hq
  have hgt : 2000 < MX ↔ ((((2000 : Int) < (xs.length : Nat) ∨ (2000 : Int) < (c.labels.length : Nat)) ∨ (2000 : Int) < (c.texts.length : Nat)) ∨ (2000 : Int) < (c.reals.length : Nat)) := by
    rw [← hMX, hmx, hmx, hmx]
  have HG := Lib.hid hgt
  clear hgt hMX hmx
  by_cases k4 : (2000 : Int) < MX
  · have hc := chk_lim (c := c) (by have := HG.out.1 k4; have := HN.out; unfold Lim; omega)
    go_wp2_with fail
    rw [← HM.out]
    exact ChkR.of hc HX1.out
  have HL : Hid (¬ Lim c) := Lib.hid (by
    have h1 := mt HG.out.2 k4; have := HN.out
    unfold Lim; omega)
  go_wp2_with fail
  clear x0 x1 x2 x3 x4 hq k4 HG
  go_loopw [48] (fun s wr => ∃ k : Nat, k ≤ xs.length ∧ s = .int .i64 k ∧ Hid (Ex W1 wr) ∧ Hid (∀ j, j < k → descB c j = true)) (fun s wr => xs.length - (intOf s).toNat)
  case atStart => exact ⟨0, Nat.zero_le _, rfl, Keeps.refl _ _, fun j hj => by omega⟩
  case round =>
    obtain ⟨k, hk, rfl, HX, HP⟩ := hrel
    obtain ⟨x0, x1, x2, x3, x4⟩ := (HF0 wr HX.out).out
    by_cases hlt : k < xs.length
    case pos =>
      have hd := descFits_any (H.out.ext (HX1.out.trans HX.out)) Hb.out k (by rw [← HN.out]; exact hlt)
      unfold codeV at hd
      have HD := Lib.hid hd
      clear hd
      rcases (Bool.eq_false_or_eq_true (descB c k)).symm with hq | hq
      · have hc := chk_desc HL.out (k := k) (by rw [← HN.out]; exact hlt) HP.out hq
        rw [hq] at HD
        clear hq
        go_wp2_with (go_at_call 62; refine HD.out.mono ?_; rintro e w3 ⟨rfl, hx⟩; have HX3 := Lib.hid (HX1.out.trans (HX.out.trans hx)); clear hx)
        rw [← HM.out]
        exact ChkR.of hc HX3.out
      · have HP2 : Hid (∀ j, j < k + 1 → descB c j = true) := Lib.hid (fun j hj => by
          by_cases e : j = k
          · subst e; exact hq
          · exact HP.out j (by omega))
        rw [hq] at HD
        clear hq
        go_wp2_with (go_at_call 62; refine HD.out.mono ?_; rintro e w3 ⟨rfl, hx⟩; have HX3 := Lib.hid (HX.out.trans hx); clear hx)
        go_roundw
        case rel => exact ⟨k + 1, by omega, by go_num, HX3, HP2⟩
        case measure => simp [intOf]; omega
    case neg =>
      have : k = xs.length := by omega
      subst this
      have hdall : ∀ j, j < c.descs.length → descB c j = true := by rw [← HN.out]; exact HP.out
      have HDA := Lib.hid hdall
      clear hdall
      go_upto_region 10 with fail
      obtain ⟨W3, hW3⟩ : ∃ W3, wr.alloc (.cells #[.func (.func 63) #[] #[.pointer (some ⟨b0, 0, none⟩)]] 64) = W3 := ⟨_, rfl⟩
      obtain ⟨b5, hb5⟩ : ∃ b5, wr.heap.size = b5 := ⟨_, rfl⟩
      have hX3 : Ex W1 W3 := by rw [← hW3]; exact HX.out.alloc _
      have hB5 : Blk W3 b5 #[.func (.func 63) #[] #[.pointer (some ⟨b0, 0, none⟩)]] 64 := by rw [← hW3, ← hb5]; exact Blk.new wr _ _
      rw [hW3]
      try rw [hb5]
      have hcl : ∀ u ∈ c.labels, ∀ V, Ex W3 V → Calls Tryz.prog 65 (#[.agg #[.int .i64 u.1, .int .i64 u.2]] ++ #[.pointer (some ⟨b5, 0, none⟩)]) V fun e W' => e = .returned (.bool (badL c u)) ∧ Ex V W' :=
        fun u _ V hV => check2_any (hV.blk (hX3.blk HB0.out id) id) (hV.blk hB5 id) l5 u
      have hcall := IndexL_any enters_check2 (H.out.ls.ext (HX1.out.trans hX3)) (by omega) (badL c) hcl
      obtain ⟨I, hI⟩ : ∃ I, idxI (badL c) c.labels = I := ⟨_, rfl⟩
      rw [hI] at hcall
      have HC := Lib.hid hcall; have HI := Lib.hid hI; have HX3 := Lib.hid hX3
      clear x0 x1 x2 x3 x4 hcall hI hX3 hcl hB5 hW3 hb5
      obtain ⟨x0, x1, x2, x3, x4⟩ := (HF0 W3 HX3.out).out
      go_wp2_with fail
      refine HC.out.mono ?_
      rintro e w4 ⟨rfl, hx⟩
      have HX4 := Lib.hid (HX3.out.trans hx)
      clear hx x0 x1 x2 x3 x4
      obtain ⟨x0, x1, x2, x3, x4⟩ := (HF0 w4 HX4.out).out
      by_cases n1 : 0 ≤ I
      · have hc := chk_label HL.out HDA.out (by rw [HI.out]; exact n1)
        rw [HI.out] at hc
        go_wp2_with fail
        rw [← HM.out]
        exact ChkR.of hc (HX1.out.trans HX4.out)
      have HN1 : Hid (¬ 0 ≤ idxI (badL c) c.labels) := Lib.hid (by rw [HI.out]; exact n1)
      have hct : ∀ u ∈ c.texts, ∀ V, Ex w4 V → Calls Tryz.prog 67 (#[.string u] ++ #[]) V fun e W' => e = .returned (.bool ((fun s => !plainB s) u)) ∧ Ex V W' :=
        fun u hu V _ => check3_any u (Hb.out.s u hu) V
      have hcall := IndexS_any enters_check3 (H.out.ts.ext (HX1.out.trans HX4.out)) (by omega) (fun s => !plainB s) hct
      obtain ⟨J, hJ⟩ : ∃ J, idxI (fun s => !plainB s) c.texts = J := ⟨_, rfl⟩
      rw [hJ] at hcall
      have HC := Lib.hid hcall; have HJ := Lib.hid hJ
      clear hcall hJ hct
      go_wp2_with fail
      refine HC.out.mono ?_
      rintro e w5 ⟨rfl, hx⟩
      have HX5 := Lib.hid (HX4.out.trans hx)
      clear hx x0 x1 x2 x3 x4
      obtain ⟨x0, x1, x2, x3, x4⟩ := (HF0 w5 HX5.out).out
      by_cases n2 : 0 ≤ J
      · have hc := chk_text HL.out HDA.out (by have := HN1.out; omega) (by rw [HJ.out]; exact n2)
        rw [HJ.out] at hc
        go_wp2_with fail
        rw [← HM.out]
        exact ChkR.of hc (HX1.out.trans HX5.out)
      have HN2 : Hid (¬ 0 ≤ idxI (fun s => !plainB s) c.texts) := Lib.hid (by rw [HJ.out]; exact n2)
      have hcr : ∀ u ∈ c.reals, ∀ V, Ex w5 V → Calls Tryz.prog 70 (#[.agg #[.int .i64 u.1, .int .i64 u.2]] ++ #[]) V fun e W' => e = .returned (.bool ((fun x => !realB x) u)) ∧ Ex V W' :=
        fun u hu V _ => check4_any u V
      have hcall := IndexR_any enters_check4 (H.out.rs.ext (HX1.out.trans HX5.out)) (by omega) (fun x => !realB x) hcr
      obtain ⟨K, hK⟩ : ∃ K, idxI (fun x => !realB x) c.reals = K := ⟨_, rfl⟩
      rw [hK] at hcall
      have HC := Lib.hid hcall; have HK := Lib.hid hK
      clear hcall hK hcr
      go_wp2_with fail
      refine HC.out.mono ?_
      rintro e w6 ⟨rfl, hx⟩
      have HX6 := Lib.hid (HX5.out.trans hx)
      clear hx x0 x1 x2 x3 x4
      obtain ⟨x0, x1, x2, x3, x4⟩ := (HF0 w6 HX6.out).out
      by_cases n3 : 0 ≤ K
      · have hc := chk_real HL.out HDA.out (by have := HN1.out; omega) (by have := HN2.out; omega) (by rw [HK.out]; exact n3)
        rw [HK.out] at hc
        go_wp2_with fail
        rw [← HM.out]
        exact ChkR.of hc (HX1.out.trans HX6.out)
      have hpl : ∀ s ∈ c.texts, plainB s = true := fun s hs => by
        have := (idxI_neg (show ¬ 0 ≤ idxI (fun s => !plainB s) c.texts by have := HN2.out; omega)).2 s hs
        simpa using this
      have HT := Lib.hid (chk_tail HL.out HDA.out (by have := HN1.out; omega) (by have := HN2.out; omega) (by rw [HK.out]; exact n3))
      have HPL := Lib.hid hpl
      clear hpl
      go_wp2_with fail
      refine (operations_any w6).mono ?_
      rintro e w7 ⟨m, rfl, hrd, -, hx⟩
      have HX7 := Lib.hid (HX6.out.trans hx)
      have HRD := Lib.hid hrd
      clear hx hrd x0 x1 x2 x3 x4
      obtain ⟨x0, x1, x2, x3, x4⟩ := (HF0 w7 HX7.out).out
      go_wp2_with fail
      clear x0 x1 x2 x3 x4
      go_loopw [81] (fun s wq => ∃ k : Nat, k ≤ c.instrs.length ∧ s = .int .i64 k ∧ Hid (Ex w7 wq) ∧ Hid (∀ j y, j < k → c.instrs[j]? = some y → insE c y = 0)) (fun s wq => c.instrs.length - (intOf s).toNat)
      case atStart => exact ⟨0, Nat.zero_le _, rfl, Keeps.refl _ _, fun j y hj => by omega⟩
      case round =>
        obtain ⟨k, hk, rfl, HXq, HQ⟩ := hrel
        obtain ⟨x0, x1, x2, x3, x4⟩ := (HF0 wr (HX7.out.trans HXq.out)).out
        by_cases hlt : k < c.instrs.length
        case neg =>
          have : k = c.instrs.length := by omega
          subst this
          have hc := chk_ok HT.out HQ.out
          go_wp2_with fail
          rw [← HM.out]
          exact ChkR.of hc (HX1.out.trans (HX7.out.trans HXq.out))
        obtain ⟨iad, rfl⟩ : ∃ a, ia = some a := by
          cases ia with
          | none => have := Hi1.out rfl; rw [this] at hlt; simp at hlt
          | some a => exact ⟨a, rfl⟩
        obtain ⟨y, hy⟩ : ∃ y, c.instrs[k]? = some y := ⟨_, List.getElem?_eq_getElem hlt⟩
        obtain ⟨A, hA⟩ : ∃ A, iad.add (k * 3) = A := ⟨_, rfl⟩
        have hXa := HX1.out.trans (HX7.out.trans HXq.out)
        obtain ⟨z0, z1, z2⟩ := (H.out.is.ext hXa).insCells hy hA
        obtain ⟨W8, hW8⟩ : ∃ W8, wr.alloc (.cells #[.int .i64 y.op, .int .i64 y.a, .int .i64 y.b] 82) = W8 := ⟨_, rfl⟩
        obtain ⟨b8, hb8⟩ : ∃ b8, wr.heap.size = b8 := ⟨_, rfl⟩
        have hX8 : Ex wr W8 := by rw [← hW8]; exact (Keeps.refl _ wr).alloc _
        have hB8 : Blk W8 b8 #[.int .i64 y.op, .int .i64 y.a, .int .i64 y.b] 82 := by rw [← hW8, ← hb8]; exact Blk.new wr _ _
        have HX8 := Lib.hid (HXq.out.trans hX8)
        have hft := fits_any (H.out.ext (hXa.trans hX8)) Hb.out HPL.out ((HRD.out.ext HXq.out).ext hX8) y
        unfold codeV at hft
        obtain ⟨E, hE⟩ : ∃ E, insE c y = E := ⟨_, rfl⟩
        rw [hE] at hft
        have HFT := Lib.hid hft; have HE := Lib.hid hE; have Hy := Lib.hid hy; have HW8 := Lib.hid hW8; have Hb8 := Lib.hid hb8
        have HB8 := Lib.hid hB8
        clear hft hE hy hW8 hb8 hX8 hB8 hXa
        go_upto_region 23 with fail
        rw [HW8.out]
        try rw [Hb8.out]
        clear x0 x1 x2 x3 x4 z0 z1 z2
        obtain ⟨x0, x1, x2, x3, x4⟩ := (HF0 W8 (HX7.out.trans HX8.out)).out
        have y0 : W8.cell? ⟨b8, 0, none⟩ = some (.int .i64 y.op) := (HB8.out.cell 0).trans rfl
        have y1 : W8.cell? ⟨b8, 1, none⟩ = some (.int .i64 y.a) := (HB8.out.cell 1).trans rfl
        have y2 : W8.cell? ⟨b8, 2, none⟩ = some (.int .i64 y.b) := (HB8.out.cell 2).trans rfl
        by_cases he : E = 0
        · subst he
          have HQ2 : Hid (∀ j z, j < k + 1 → c.instrs[j]? = some z → insE c z = 0) := Lib.hid (fun j z hj hz => by
            by_cases e : j = k
            · subst e; rw [Hy.out] at hz; injection hz with hz; rw [← hz]; exact HE.out
            · exact HQ.out j z (by omega) hz)
          go_wp2_with (go_at_call 72; refine HFT.out.mono ?_; rintro e w9 ⟨rfl, hx⟩; have HX9 := Lib.hid (HX8.out.trans hx); clear hx)
          go_roundw
          case rel => exact ⟨k + 1, by omega, by go_num, HX9, HQ2⟩
          case measure => simp [intOf]; omega
        · have hc := chk_instr HT.out Hy.out HQ.out (by rw [HE.out]; exact he)
          rw [HE.out] at hc
          have he2 : (E != 0) = true := by simpa using he
          go_wp2_with (go_at_call 72; refine HFT.out.mono ?_; rintro e w9 ⟨rfl, hx⟩; have HX9 := Lib.hid (HX8.out.trans hx); clear hx)
          rw [← HM.out]
          exact ChkR.of hc (HX1.out.trans (HX7.out.trans HX9.out))
end Go.Proofs.YtlaepkmnbbgbcaaGreatDoor
/- The shelf's contracts for slices of ints (DeleteFunc, Sort, Compact), laid at this program (written by the kit's lay-shelf and lay-plain, cut down by wip/tools/prune.py). -/
namespace Go.Proofs.YtlaepkmnbbgbcaaGreatDoor
open Go.Shelf Go.RowKit Go.Lib Go.Sort
set_option linter.unusedVariables false

def Sh.lays189_ren : Go.Shelf.Ren := ⟨fun | 189 => 90 | 125 => 132 | 257 => 131 | 128 => 167 | 129 => 168 | 294 => 158 | 295 => 159 | 296 => 160 | 297 => 161 | 298 => 162 | 299 => 163 | 216 => 164 | 300 => 165 | 301 => 166 | 328 => 196 | 329 => 197 | 330 => 198 | 331 => 199 | 332 => 200 | 215 => 201 | 343 => 223 | n => n, fun | 28 => 47 | 3 => 3 | 46 => 177 | 0 => 0 | 51 => 209 | 53 => 211 | 4 => 4 | 183 => 202 | 182 => 201 | 131 => 189 | 5 => 5 | 9 => 9 | 218 => 242 | 222 => 235 | 228 => 263 | 229 => 264 | n => n, fun | n => n⟩
theorem Sh.lays189 : Go.Proofs.Lays.n189 Tryz.prog Sh.lays189_ren := {
  mixed := by kernel_rfl
  f125 := Tryz.func132.trans (congrArg some (by kernel_rfl))
  f128 := Tryz.func167.trans (congrArg some (by kernel_rfl))
  f129 := Tryz.func168.trans (congrArg some (by kernel_rfl))
  f189 := Tryz.func90.trans (congrArg some (by kernel_rfl))
  f215 := Tryz.func201.trans (congrArg some (by kernel_rfl))
  f216 := Tryz.func164.trans (congrArg some (by kernel_rfl))
  f257 := Tryz.func131.trans (congrArg some (by kernel_rfl))
  f294 := Tryz.func158.trans (congrArg some (by kernel_rfl))
  f295 := Tryz.func159.trans (congrArg some (by kernel_rfl))
  f296 := Tryz.func160.trans (congrArg some (by kernel_rfl))
  f297 := Tryz.func161.trans (congrArg some (by kernel_rfl))
  f298 := Tryz.func162.trans (congrArg some (by kernel_rfl))
  f299 := Tryz.func163.trans (congrArg some (by kernel_rfl))
  f300 := Tryz.func165.trans (congrArg some (by kernel_rfl))
  f301 := Tryz.func166.trans (congrArg some (by kernel_rfl))
  f328 := Tryz.func196.trans (congrArg some (by kernel_rfl))
  f329 := Tryz.func197.trans (congrArg some (by kernel_rfl))
  f330 := Tryz.func198.trans (congrArg some (by kernel_rfl))
  f331 := Tryz.func199.trans (congrArg some (by kernel_rfl))
  f332 := Tryz.func200.trans (congrArg some (by kernel_rfl))
  f343 := Tryz.func223.trans (congrArg some (by kernel_rfl))
  t0 := Tryz.underlying0
  a0 := Tryz.isAgg0
  z0 := Tryz.sizeOf0
  v0 := Tryz.zeroValue0
  t3 := Tryz.underlying3
  a3 := Tryz.isAgg3
  z3 := Tryz.sizeOf3
  v3 := Tryz.zeroValue3
  t4 := Tryz.underlying4
  a4 := Tryz.isAgg4
  z4 := Tryz.sizeOf4
  v4 := Tryz.zeroValue4
  t5 := Tryz.underlying5
  a5 := Tryz.isAgg5
  z5 := Tryz.sizeOf5
  v5 := Tryz.zeroValue5
  t9 := Tryz.underlying9
  a9 := Tryz.isAgg9
  z9 := Tryz.sizeOf9
  v9 := Tryz.zeroValue9
  t28 := Tryz.underlying47
  a28 := Tryz.isAgg47
  z28 := Tryz.sizeOf47
  v28 := Tryz.zeroValue47
  t46 := Tryz.underlying177
  a46 := Tryz.isAgg177
  z46 := Tryz.sizeOf177
  v46 := Tryz.zeroValue177
  t51 := Tryz.underlying209
  a51 := Tryz.isAgg209
  z51 := Tryz.sizeOf209
  v51 := Tryz.zeroValue209
  t53 := Tryz.underlying211
  a53 := Tryz.isAgg211
  z53 := Tryz.sizeOf211
  v53 := Tryz.zeroValue211
  t131 := Tryz.underlying189
  a131 := Tryz.isAgg189
  z131 := Tryz.sizeOf189
  v131 := Tryz.zeroValue189
  t182 := Tryz.underlying201
  a182 := Tryz.isAgg201
  z182 := Tryz.sizeOf201
  v182 := Tryz.zeroValue201
  t183 := Tryz.underlying202
  a183 := Tryz.isAgg202
  z183 := Tryz.sizeOf202
  v183 := Tryz.zeroValue202
  t218 := Tryz.underlying242
  a218 := Tryz.isAgg242
  z218 := Tryz.sizeOf242
  v218 := Tryz.zeroValue242
  t222 := Tryz.underlying235
  a222 := Tryz.isAgg235
  z222 := Tryz.sizeOf235
  v222 := Tryz.zeroValue235
  t228 := Tryz.underlying263
  a228 := Tryz.isAgg263
  z228 := Tryz.sizeOf263
  v228 := Tryz.zeroValue263
  t229 := Tryz.underlying264
  a229 := Tryz.isAgg264
  z229 := Tryz.sizeOf264
  v229 := Tryz.zeroValue264 }
open Go.Sort Go.RowKit in
theorem Sh.slices_Sort_int (blk off cap : Nat) (zs : List Int) (w : World) (hH : Holds (Value.int .i64) w blk off zs.toArray) (hblk : blk < w.heap.size) (hsz : zs.length < 4611686018427387904) :
    Calls Tryz.prog 90 #[.slice (some ⟨blk, off, none⟩) zs.length cap] w fun e w' =>
      e = .returned (.tuple #[]) ∧ ∃ n os, w' = grow (putRow (Value.int .i64) (Sort.ahead w n) blk off (zs.mergeSort fun x y => decide (x ≤ y)).toArray) os := Any.slices_Sort_int Sh.lays189 blk off cap zs w hH hblk hsz
def Sh.laysNm220_ren : Go.Shelf.Ren := ⟨fun | 20 => 91 | n => n, fun | 22 => 47 | 3 => 3 | 4 => 4 | 0 => 0 | n => n, fun | n => n⟩
theorem Sh.laysNm220 : Go.Proofs.Lays2.n20 Tryz.prog Sh.laysNm220_ren := {
  mixed := by kernel_rfl
  f20 := Tryz.func91.trans (congrArg some (by kernel_rfl))
  t0 := Tryz.underlying0
  a0 := Tryz.isAgg0
  z0 := Tryz.sizeOf0
  v0 := Tryz.zeroValue0
  t3 := Tryz.underlying3
  a3 := Tryz.isAgg3
  z3 := Tryz.sizeOf3
  v3 := Tryz.zeroValue3
  t4 := Tryz.underlying4
  a4 := Tryz.isAgg4
  z4 := Tryz.sizeOf4
  v4 := Tryz.zeroValue4
  t22 := Tryz.underlying47
  a22 := Tryz.isAgg47
  z22 := Tryz.sizeOf47
  v22 := Tryz.zeroValue47
  i3 := by kernel_rfl }
open Go.RowKit Go.Lib Go.Sort in
theorem Sh.slices_Compact_int (blk off cap : Nat) (zs : List Int) (w : World) (hH : Holds (Value.int .i64) w blk off zs.toArray) (hsz : zs.length ≤ 9223372036854775807) (hcap : zs.length ≤ cap) :
    Calls Tryz.prog 91 #[.slice (some ⟨blk, off, none⟩) zs.length cap] w fun e w' => e = .returned (.slice (some ⟨blk, off, none⟩) (Lib.compact zs).length cap) ∧ ∃ q, w' = putRow (Value.int .i64) (Sort.ahead w q) blk off (Lib.compact zs ++ List.replicate (zs.length - (Lib.compact zs).length) 0).toArray := Any.slices_Compact_int Sh.laysNm220 blk off cap zs w hH hsz hcap
open Go.RowKit Go.Lib Go.Sort in
theorem Sh.slices_Compact_int_empty (a : Option Addr) (cap : Nat) (w : World) :
    Calls Tryz.prog 91 #[.slice a 0 cap] w fun e w' => e = .returned (.slice a 0 cap) ∧ w' = w := Any.slices_Compact_int_empty Sh.laysNm220 a cap w
open Go.RowKit Go.Sort in
theorem Sh.slices_Sort_int_none (p : Option Addr) (cap : Nat) (w : World) :
    Calls Tryz.prog 90 #[.slice p 0 cap] w fun e w' => e = .returned (.tuple #[]) ∧ w' = w := Any.slices_Sort_int_none Sh.lays189 p cap w
def Sh.laysSlH6_f130_ren : Go.Shelf.Ren := ⟨fun | 6 => 130 | n => n, fun | 22 => 47 | 23 => 3 | 25 => 64 | 3 => 3 | 0 => 0 | 4 => 4 | n => n, fun | n => n⟩
theorem Sh.laysSlH6_f130 : Go.Proofs.SlLaysH.n6 Tryz.prog Sh.laysSlH6_f130_ren := {
  mixed := by kernel_rfl
  f6 := ⟨Tryz.f130.name, by decide, Tryz.func130.trans (congrArg some (by kernel_rfl))⟩
  t0 := Tryz.underlying0
  a0 := Tryz.isAgg0
  z0 := Tryz.sizeOf0
  v0 := Tryz.zeroValue0
  t3 := Tryz.underlying3
  a3 := Tryz.isAgg3
  z3 := Tryz.sizeOf3
  v3 := Tryz.zeroValue3
  t4 := Tryz.underlying4
  a4 := Tryz.isAgg4
  z4 := Tryz.sizeOf4
  v4 := Tryz.zeroValue4
  t22 := Tryz.underlying47
  a22 := Tryz.isAgg47
  z22 := Tryz.sizeOf47
  v22 := Tryz.zeroValue47
  a23 := Tryz.isAgg3
  z23 := Tryz.sizeOf3
  t25 := Tryz.underlying64
  a25 := Tryz.isAgg64
  z25 := Tryz.sizeOf64
  v25 := Tryz.zeroValue64 }
open Go.RowKit Go.Lib in
theorem Sh.slices_IndexFunc_empty_f130 {α : Type} [Inhabited α] (a : Option Addr) (c : Nat) (fv : Value) (w : World) :
    Calls Tryz.prog 130 #[.slice a 0 c, fv] w fun e w' => e = .returned (.int .i64 (-1)) ∧ w' = w := AnyE.slices_IndexFunc_empty Sh.laysSlH6_f130 a c fv w
def Sh.laysSlH10_f88_ren : Go.Shelf.Ren := ⟨fun | 10 => 88 | 6 => 130 | n => n, fun | 22 => 47 | 23 => 3 | 25 => 64 | 3 => 3 | 4 => 4 | 0 => 0 | n => n, fun | n => n⟩
theorem Sh.laysSlH10_f88 : Go.Proofs.SlLaysH.n10 Tryz.prog Sh.laysSlH10_f88_ren := {
  mixed := by kernel_rfl
  f6 := ⟨Tryz.f130.name, by decide, Tryz.func130.trans (congrArg some (by kernel_rfl))⟩
  f10 := ⟨Tryz.f88.name, by decide, Tryz.func88.trans (congrArg some (by kernel_rfl))⟩
  t0 := Tryz.underlying0
  a0 := Tryz.isAgg0
  z0 := Tryz.sizeOf0
  v0 := Tryz.zeroValue0
  t3 := Tryz.underlying3
  a3 := Tryz.isAgg3
  z3 := Tryz.sizeOf3
  v3 := Tryz.zeroValue3
  t4 := Tryz.underlying4
  a4 := Tryz.isAgg4
  z4 := Tryz.sizeOf4
  v4 := Tryz.zeroValue4
  t22 := Tryz.underlying47
  a22 := Tryz.isAgg47
  z22 := Tryz.sizeOf47
  v22 := Tryz.zeroValue47
  a23 := Tryz.isAgg3
  z23 := Tryz.sizeOf3
  t25 := Tryz.underlying64
  a25 := Tryz.isAgg64
  z25 := Tryz.sizeOf64
  v25 := Tryz.zeroValue64 }
open Go.RowKit Go.Lib Go.Sort in
theorem Sh.slices_DeleteFunc {α : Type} [Inhabited α] (enc : α → Value) (hO : OneCell enc) (p : α → Bool) (g : Nat) (lb : Array Value) (eg : ∀ args w, (callFunc g args).run Tryz.prog w = .ok (.enter g args) w) (zr : α) (v23 : ∀ w, (zeroValue 3).run Tryz.prog w = .ok (enc zr) w) (blk off cap : Nat) (d : Array α) (w : World) (hp : PredAt Tryz.prog g lb enc p w) (hpo : PredOver Tryz.prog g lb enc p blk off d.size w) (hH : Holds enc w blk off d) (hsz : d.size ≤ 9223372036854775807) (hcap : d.size ≤ cap) :
    Calls Tryz.prog 88 #[.slice (some ⟨blk, off, none⟩) d.size cap, .func (.func g) #[] lb] w fun e w' => e = .returned (.slice (some ⟨blk, off, none⟩) (d.toList.filter fun x => !p x).length cap) ∧ ∃ q, w' = putRow enc (Sort.ahead w q) blk off ((d.toList.filter fun x => !p x) ++ List.replicate (d.size - (d.toList.filter fun x => !p x).length) zr).toArray := AnyE.slices_DeleteFunc Sh.laysSlH10_f88 enc hO p g lb eg zr v23 blk off cap d w hp hpo hH hsz hcap

end Go.Proofs.YtlaepkmnbbgbcaaGreatDoor
/- Rows of ints of the call's own: DeleteFunc, Sort, Compact. -/
namespace Go.Proofs.YtlaepkmnbbgbcaaGreatDoor
open Go.RowKit Go.Instr Go.Sort
set_option linter.unusedVariables false
set_option linter.unusedSimpArgs false
attribute [local go_sem] Oper.semAt_some

/-- A slice of ints in a block of its own. -/
def OwnI (w : World) (base : Nat) (v : Value) (l : List Int) : Prop := w.ownsRow base 3 1 v l.length (l.map (Value.int .i64))
/-- w' is w but for the block of v and new ones. -/
abbrev ExV (v : Value) (w w' : World) : Prop := Keeps (fun k => v.ownBlock = some k) w w'
theorem encI_flat (l : List Int) : l.flatMap encI = l.map (Value.int .i64) := by
  induction l with
  | nil => rfl
  | cons x r ih => rw [List.flatMap_cons, ih]; rfl
theorem OwnI.rd {w : World} {base : Nat} {v : Value} {l : List Int} (h : OwnI w base v l) : RdL encI w v l := by
  have hc := fun g hg => World.ownsRow.cells h (g := g) hg
  rcases h.2 with ⟨rfl, hl⟩ | ⟨g, cap, cur, rfl, _, _, hn, _⟩
  · have : l = [] := List.eq_nil_of_length_eq_zero hl
    subst this
    exact RdL.nil w
  · refine ⟨some ⟨g, 0, none⟩, cap, rfl, hn, fun h => (by cases h), fun ad had j u hu => ?_⟩
    injection had with had; subst had
    refine hc g rfl j u ?_
    rw [← encI_flat]; exact hu
theorem OwnI.form {w : World} {base : Nat} {v : Value} {l : List Int} (h : OwnI w base v l) : (v = .slice none 0 0 ∧ l = []) ∨ ∃ g cap, v = .slice (some ⟨g, 0, none⟩) l.length cap ∧ base ≤ g ∧ g < w.heap.size ∧ l.length ≤ cap ∧ cap ≤ maxLen ∧ Holds (Value.int .i64) w g 0 l.toArray := by
  by_cases hv : v = .slice none 0 0
  · refine .inl ⟨hv, ?_⟩
    rcases h.2 with ⟨_, hl⟩ | ⟨g, cap, cur, e, _⟩
    · exact List.eq_nil_of_length_eq_zero hl
    · rw [hv] at e; cases e
  · obtain ⟨g, cap, e, h1, h2, h3, h4, h5, h6⟩ := Lib.holds_of_ownsRow (enc := Value.int .i64) h hv
    exact .inr ⟨g, cap, e, h1, h2, h3, h4, h6⟩
theorem putRow_ex {w : World} {g q cap n : Nat} {d : Array Int} : ExV (.slice (some ⟨g, 0, none⟩) n cap) w (putRow (Value.int .i64) (Sort.ahead w q) g 0 d) :=
  ⟨rfl, rfl, rfl, by simp [putRow, mapBlock, Sort.ahead], fun k hk hn => by
    have : ¬ g = k := fun e => hn (by rw [← e]; rfl)
    simp [putRow, mapBlock, Sort.ahead, Array.getElem?_modify, this]⟩
theorem grow_ex {S : Nat → Prop} {w w1 : World} (h : Keeps S w w1) (os : Array Obj) : Keeps S w (grow w1 os) :=
  ⟨h.os, h.tape, h.output, by have := h.size; simp only [grow, Array.size_append]; omega, fun k hk hn => by
    have := h.size
    rw [← h.block k hk hn]; exact heap_grow_old w1 os (by omega)⟩
theorem OwnI.kept {S : Nat → Prop} {w w' : World} {base : Nat} {v : Value} {l : List Int} (h : OwnI w base v l) (hx : Keeps S w w') (hs : ∀ k, v.ownBlock = some k → ¬ S k) : OwnI w' base v l := by
  rcases h.2 with ⟨e, hl⟩ | ⟨g, cap, cur, e, h1, h2, h3⟩
  · exact ⟨h.1, .inl ⟨e, hl⟩⟩
  · exact ⟨h.1, .inr ⟨g, cap, cur, e, h1, (hx.block g (Array.getElem?_eq_some_iff.1 h2).1 (hs g (by rw [e]; rfl))).trans h2, h3⟩⟩
set_option maxRecDepth 100000 in
/-- slices.DeleteFunc. -/
theorem delI_any {g : Nat} {lb : Array Value} (eg : ∀ args w, (callFunc g args).run Tryz.prog w = .ok (.enter g args) w) {p : Int → Bool} {w : World} {base : Nat} {v : Value} {l : List Int} (h : OwnI w base v l)
    (hp : ∀ (V : World) (x : Int), (∀ k, k < w.heap.size → v.ownBlock ≠ some k → V.heap[k]? = w.heap[k]?) → Calls Tryz.prog g (#[.int .i64 x] ++ lb) V fun e w' => e = .returned (.bool (p x)) ∧ ∃ q, w' = V.drewN q) :
    Calls Tryz.prog 88 #[v, .func (.func g) #[] lb] w fun e w' => ∃ v', e = .returned v' ∧ OwnI w' base v' (l.filter fun x => !p x) ∧ v'.ownBlock = v.ownBlock ∧ ExV v w w' := by
  rcases h.form with ⟨rfl, rfl⟩ | ⟨blk, cap, rfl, hb, hlt, hcap, hmax, hH⟩
  · have hi := Sh.slices_IndexFunc_empty_f130 (α := Int) none 0 (.func (.func g) #[] lb) w
    clear h hp
    go_enter Tryz.func88, Tryz.ntmps88
    go_wp2_with (go_at_call 130; refine hi.mono ?_; rintro e w2 ⟨rfl, rfl⟩)
    go_ret
    exact ⟨_, rfl, World.ownsRow_nil _ _ _ _, rfl, Keeps.refl _ _⟩
  · have hd := Sh.slices_DeleteFunc (Value.int .i64) (fun x => by rfl) p g lb eg 0 Tryz.zeroValue3 blk 0 cap l.toArray w
      (fun V x hV => hp V x fun k hk _ => hV.block k hk)
      (fun n os dk x hdk => hp _ x fun k hk hn => by
        have hne : ¬ blk = k := fun e => hn (by rw [← e]; rfl)
        have h1 := (grow_ex (putRow_ex (w := w) (g := blk) (q := n) (cap := cap) (n := l.length) (d := dk)) os).block k hk (fun e => hn e)
        exact h1)
      hH (by simp; unfold maxLen at hmax; omega) (by simpa using hcap)
    simp only [List.size_toArray, List.toList_toArray] at hd
    refine hd.mono ?_
    rintro e w' ⟨rfl, q, rfl⟩
    refine ⟨_, rfl, ?_, rfl, putRow_ex⟩
    have := Lib.ownsRow_putRow (enc := Value.int .i64) (q := q) (ys := (l.filter fun x => !p x) ++ List.replicate (l.length - (l.filter fun x => !p x).length) 0) (k := (l.filter fun x => !p x).length) h (by
      have := List.length_filter_le (fun x => !p x) l
      simp; omega) (List.length_filter_le _ _)
    rw [List.take_left'] at this
    · exact this
    · rfl
/-- slices.Sort. -/
theorem sortI_any {w : World} {base : Nat} {v : Value} {l : List Int} (h : OwnI w base v l) (hl : l.length ≤ 1000000000) :
    Calls Tryz.prog 90 #[v] w fun e w' => e = .returned (.tuple #[]) ∧ OwnI w' base v (l.mergeSort fun x y => decide (x ≤ y)) ∧ ExV v w w' := by
  rcases h.form with ⟨rfl, rfl⟩ | ⟨blk, cap, rfl, hb, hlt, hcap, hmax, hH⟩
  · refine (Sh.slices_Sort_int_none none 0 w).mono ?_
    rintro e w' ⟨rfl, rfl⟩
    exact ⟨rfl, by simpa using h, Keeps.refl _ _⟩
  · refine (Sh.slices_Sort_int blk 0 cap l w hH hlt (by omega)).mono ?_
    rintro e w' ⟨rfl, n, os, rfl⟩
    refine ⟨rfl, ?_, grow_ex putRow_ex os⟩
    rcases h.2 with ⟨e, _⟩ | ⟨g', cap', cur, e, h1, h2, h3, h4, h5, h6⟩
    · cases e
    injection e with e1 _ e3
    injection e1 with e1
    injection e1 with e1
    subst e1; subst e3
    have hl : (l.mergeSort fun x y => decide (x ≤ y)).length = l.length := List.length_mergeSort l
    have := ownsRow_sortedI (n := n) (os := os) (ss := l) (ts := l.mergeSort fun x y => decide (x ≤ y)) hl h1 h2 h3 h4 h5
    unfold OwnI
    rw [hl]
    exact this
/-- slices.Compact. -/
theorem compactI_any {w : World} {base : Nat} {v : Value} {l : List Int} (h : OwnI w base v l) :
    Calls Tryz.prog 91 #[v] w fun e w' => ∃ v', e = .returned v' ∧ OwnI w' base v' (Lib.compact l) ∧ v'.ownBlock = v.ownBlock ∧ ExV v w w' := by
  rcases h.form with ⟨rfl, rfl⟩ | ⟨blk, cap, rfl, hb, hlt, hcap, hmax, hH⟩
  · refine (Sh.slices_Compact_int_empty none 0 w).mono ?_
    rintro e w' ⟨rfl, rfl⟩
    exact ⟨_, rfl, h, rfl, Keeps.refl _ _⟩
  · refine (Sh.slices_Compact_int blk 0 cap l w hH (by unfold maxLen at hmax; omega) hcap).mono ?_
    rintro e w' ⟨rfl, q, rfl⟩
    refine ⟨_, rfl, ?_, rfl, putRow_ex⟩
    have hle : (Lib.compact l).length ≤ l.length := Lib.compact_length_le l
    have := Lib.ownsRow_putRow (enc := Value.int .i64) (q := q) (ys := Lib.compact l ++ List.replicate (l.length - (Lib.compact l).length) 0) (k := (Lib.compact l).length) h (by simp; omega) hle
    rw [List.take_left'] at this
    · exact this
    · rfl
end Go.Proofs.YtlaepkmnbbgbcaaGreatDoor
