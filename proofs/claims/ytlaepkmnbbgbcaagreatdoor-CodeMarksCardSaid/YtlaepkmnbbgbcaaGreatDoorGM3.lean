/- next, Next. (Written by wip/tools/genXA.py.) Reached, in plain Lean. What Strip leaves, in plain Lean: it is well-formed; without marks nothing turns. -/
import Derived.Test.YtlaepkmnbbgbcaaGreatDoorGM2
import Derived.Test.YtlaepkmnbbgbcaaGreatDoorGB9
import Derived.Test.YtlaepkmnbbgbcaaGreatDoorGB16
import Derived.Test.YtlaepkmnbbgbcaaGreatDoorGB17
/- next, Next. (Written by wip/tools/genXA.py.) -/
namespace Go.Proofs.YtlaepkmnbbgbcaaGreatDoor
open Go.RowKit Go.Instr Go.Sort
set_option linter.unusedVariables false
set_option linter.unusedSimpArgs false
attribute [local go_sem] Oper.semAt_some

def stops (op : Int) : Bool := decide (op = 36) || decide (op = 46) || decide (op = 47) || decide (op = 54) || decide (op = 55)
def nextRaw (x : Ins) (a : Int) : List Int := if stops x.op then [] else if x.op = 42 then [x.a] else if x.op = 43 then [x.a, a + 1] else [a + 1]
def nextL (c : Co) (a : Nat) : List Int := uniq ((nextRaw (c.instrs.getD a default) a).filter fun n => !decide ((c.instrs.length : Int) ≤ n))
theorem enters_next1 (args : Array Value) (w : World) : (callFunc 133 args).run Tryz.prog w = .ok (.enter 133 args) w := enters_of Tryz.func133 (by kernel_rfl) rfl args w
theorem next1_any {V : World} {b0 n ic : Nat} {ia : Option Addr} (hk : V.cell? ⟨b0, 4, none⟩ = some (.slice ia n ic)) (x : Int) :
    Calls Tryz.prog 133 (#[.int .i64 x] ++ #[.pointer (some ⟨b0, 0, none⟩)]) V fun e w' => e = .returned (.bool (decide ((n : Int) ≤ x))) ∧ ∃ q, w' = V.drewN q := by
  show Calls Tryz.prog 133 #[.int .i64 x, .pointer (some ⟨b0, 0, none⟩)] V _
  go_enter Tryz.func133, Tryz.ntmps133
  go_wp2
  go_ret
  exact ⟨rfl, 0, rfl⟩
theorem uniq_len (l : List Int) : (uniq l).length ≤ l.length := by
  have h := Lib.compact_length_le (l.mergeSort fun x y => decide (x ≤ y))
  rw [List.length_mergeSort] at h
  exact h
set_option maxRecDepth 100000 in
set_option maxHeartbeats 8000000 in
theorem next_any {w : World} {dv lv tv rv iv : Value} {c : Co} {xs : List DeV} (h : RdCo w dv lv tv rv iv c xs) (hn : c.instrs.length ≤ 1000000) {a : Nat} (ha : a < c.instrs.length) :
    Calls Tryz.prog 92 #[codeV dv lv tv rv iv, .int .i64 a] w fun e w' => ∃ v, e = .returned v ∧ OwnI w' w.heap.size v (nextL c a) ∧ Ex w w' := by
  obtain ⟨W1, hW1⟩ : ∃ W1, w.alloc (.cells #[dv, lv, tv, rv, iv] 28) = W1 := ⟨_, rfl⟩
  obtain ⟨b0, hb0⟩ : ∃ b0, w.heap.size = b0 := ⟨_, rfl⟩
  have hX1 : Ex w W1 := by rw [← hW1]; exact (Keeps.refl _ w).alloc _
  have hB0 : Blk W1 b0 #[dv, lv, tv, rv, iv] 28 := by rw [← hW1, ← hb0]; exact Blk.new w _ _
  have hs1 : W1.heap.size = b0 + 1 := by rw [← hW1, ← hb0, World.size_alloc]
  obtain ⟨da, dc, rfl, -⟩ := id h.ds
  obtain ⟨la, lc, rfl, -⟩ := id h.ls
  obtain ⟨ta, tc, rfl, -⟩ := id h.ts
  obtain ⟨ra, rc, rfl, -⟩ := id h.rs
  obtain ⟨ia, ic, rfl, -, hi1, -⟩ := id h.is
  obtain ⟨iad, rfl⟩ : ∃ ad, ia = some ad := by
    cases ia with
    | none => have := hi1 rfl; rw [this] at ha; simp at ha
    | some ad => exact ⟨ad, rfl⟩
  obtain ⟨x, hx⟩ : ∃ x, c.instrs[a]? = some x := ⟨_, List.getElem?_eq_getElem ha⟩
  have hxd : c.instrs.getD a default = x := by rw [List.getD_eq_getElem?_getD, hx]; rfl
  obtain ⟨A, hA⟩ : ∃ A, iad.add (a * 3) = A := ⟨_, rfl⟩
  obtain ⟨z0, z1, z2⟩ := (h.is.ext hX1).insCells hx hA
  obtain ⟨ni, hni⟩ : ∃ n, c.instrs.length = n := ⟨_, rfl⟩
  rw [hni] at hn ha hB0 hW1 ⊢
  have x4 : W1.cell? ⟨b0, 4, none⟩ = some (.slice (some iad) ni ic) := (hB0.cell 4).trans rfl
  obtain ⟨W2, hW2⟩ : ∃ W2, W1.alloc (.cells #[.int .i64 x.op, .int .i64 x.a, .int .i64 x.b] 82) = W2 := ⟨_, rfl⟩
  have hX12 : Ex W1 W2 := by rw [← hW2]; exact (Keeps.refl _ W1).alloc _
  have hB2 : Blk W2 (b0 + 1) #[.int .i64 x.op, .int .i64 x.a, .int .i64 x.b] 82 := by rw [← hW2, ← hs1]; exact Blk.new W1 _ _
  have hs2 : W2.heap.size = b0 + 2 := by rw [← hW2, World.size_alloc, hs1]
  have y0 : W2.cell? ⟨b0 + 1, 0, none⟩ = some (.int .i64 x.op) := (hB2.cell 0).trans rfl
  have y1 : W2.cell? ⟨b0 + 1, 1, none⟩ = some (.int .i64 x.a) := (hB2.cell 1).trans rfl
  have hmf : ∀ (fn : Fn) (first cap : Array Value) (w : World), (Instr.makeFunc fn first cap).run Tryz.prog w = .ok (.func fn first cap) w := fun _ _ _ _ => rfl
  have HX1 := Lib.hid hX1; have HW1 := Lib.hid hW1; have Hb0 := Lib.hid hb0; have HB0 := Lib.hid hB0; have Hs1 := Lib.hid hs1; have HX12 := Lib.hid hX12; have HW2 := Lib.hid hW2; have Hs2 := Lib.hid hs2; have Hxd := Lib.hid hxd; have Hni := Lib.hid hni
  clear hX1 hW1 hb0 hB0 hs1 hX12 hB2 hW2 hs2 hxd hni hi1 hx h
  unfold codeV
  generalize hM : (fun (e : Ending) (w' : World) => ∃ v, e = .returned v ∧ OwnI w' w.heap.size v (nextL c a) ∧ Ex w w') = M
  have HM := Lib.hid hM
  clear hM
  have HFin : ∀ (L : List Int) (v : Value) (W : World), L.length ≤ 2 → nextRaw x a = L → OwnI W (b0 + 1) v L → Ex W1 W → Hid (Calls Tryz.prog 88 #[v, .func (.func 133) #[] #[.pointer (some ⟨b0, 0, none⟩)]] W fun e w' => ∃ v', e = .returned v' ∧ OwnI w' (b0 + 1) v' (L.filter fun n => !decide ((ni : Int) ≤ n)) ∧ v'.ownBlock = v.ownBlock ∧ ExV v W w') := by
    intro L v W hL hraw ho hx
    refine Lib.hid (delI_any enters_next1 ho (p := fun n => decide ((ni : Int) ≤ n)) (fun V y hV => ?_))
    refine next1_any (ia := some iad) (ic := ic) ?_ y
    have hb := hx.blk HB0.out id
    have hne : v.ownBlock ≠ some b0 := fun e => by have := (World.ownsRow.lt ho b0 e).1; omega
    have hbV : Blk V b0 #[.slice da xs.length dc, .slice la c.labels.length lc, .slice ta c.texts.length tc, .slice ra c.reals.length rc, .slice (some iad) ni ic] 28 := by
      unfold Blk; rw [hV b0 hb.lt hne]; exact hb
    exact (hbV.cell 4).trans rfl
  go_enter Tryz.func92, Tryz.ntmps92
  go_upto_region 1 with fail
  rw [HW1.out]
  try rw [Hb0.out]
  go_upto_region 2 with fail
  rw [HW2.out]
  try rw [Hs1.out]
  clear x4 z0 z1 z2
  by_cases h36 : x.op = 36
  case pos =>
    have HRaw : Hid (nextRaw x a = []) := Lib.hid (by unfold nextRaw stops; simp [h36])
    rw [h36] at y0
    have HX3 := HX12
    have HO3 : Hid (OwnI W2 (b0 + 1) (.slice none 0 0) []) := Lib.hid (World.ownsRow_nil _ _ _ _)
    have HD := HFin [] (.slice none 0 0) W2 (by simp) HRaw.out HO3.out HX3.out
    go_wp2_with fail
    refine HD.out.mono ?_
    rintro e w4 ⟨v4, rfl, ho4, hb4, hx4⟩
    have HO4 := Lib.hid ho4
    have HX4 : Hid (Ex W1 w4) := Lib.hid (HX3.out.ex HO3.out (by rw [Hs1.out]; exact Nat.le_refl _) hx4)
    clear ho4 hb4 hx4 HD
    go_wp2_with fail
    refine (sortI_any HO4.out (Nat.le_trans (List.length_filter_le _ _) (by simp))).mono ?_
    rintro e w5 ⟨rfl, ho5, hx5⟩
    have HO5 := Lib.hid ho5
    have HX5 : Hid (Ex W1 w5) := Lib.hid (HX4.out.ex HO4.out (by rw [Hs1.out]; exact Nat.le_refl _) hx5)
    clear ho5 hx5
    go_wp2_with fail
    refine (compactI_any HO5.out).mono ?_
    rintro e w6 ⟨v6, rfl, ho6, hb6, hx6⟩
    have HO6 := Lib.hid ho6
    have HX6 : Hid (Ex W1 w6) := Lib.hid (HX5.out.ex HO5.out (by rw [Hs1.out]; exact Nat.le_refl _) hx6)
    clear ho6 hb6 hx6
    go_wp2_with fail
    rw [← HM.out]
    refine ⟨v6, rfl, ?_, HX1.out.trans HX6.out⟩
    have h9 : nextL c a = Lib.compact ((([] : List Int).filter fun n => !decide ((ni : Int) ≤ n)).mergeSort fun x y => decide (x ≤ y)) := by unfold nextL uniq; rw [Hxd.out, Hni.out, HRaw.out]
    rw [h9, Hb0.out]
    exact HO6.out.low (by omega)
  have k36 : (x.op == 36) = false := by simpa using h36
  by_cases h46 : x.op = 46
  case pos =>
    have HRaw : Hid (nextRaw x a = []) := Lib.hid (by unfold nextRaw stops; simp [h46])
    rw [h46] at y0
    have HX3 := HX12
    have HO3 : Hid (OwnI W2 (b0 + 1) (.slice none 0 0) []) := Lib.hid (World.ownsRow_nil _ _ _ _)
    have HD := HFin [] (.slice none 0 0) W2 (by simp) HRaw.out HO3.out HX3.out
    go_wp2_with fail
    refine HD.out.mono ?_
    rintro e w4 ⟨v4, rfl, ho4, hb4, hx4⟩
    have HO4 := Lib.hid ho4
    have HX4 : Hid (Ex W1 w4) := Lib.hid (HX3.out.ex HO3.out (by rw [Hs1.out]; exact Nat.le_refl _) hx4)
    clear ho4 hb4 hx4 HD
    go_wp2_with fail
    refine (sortI_any HO4.out (Nat.le_trans (List.length_filter_le _ _) (by simp))).mono ?_
    rintro e w5 ⟨rfl, ho5, hx5⟩
    have HO5 := Lib.hid ho5
    have HX5 : Hid (Ex W1 w5) := Lib.hid (HX4.out.ex HO4.out (by rw [Hs1.out]; exact Nat.le_refl _) hx5)
    clear ho5 hx5
    go_wp2_with fail
    refine (compactI_any HO5.out).mono ?_
    rintro e w6 ⟨v6, rfl, ho6, hb6, hx6⟩
    have HO6 := Lib.hid ho6
    have HX6 : Hid (Ex W1 w6) := Lib.hid (HX5.out.ex HO5.out (by rw [Hs1.out]; exact Nat.le_refl _) hx6)
    clear ho6 hb6 hx6
    go_wp2_with fail
    rw [← HM.out]
    refine ⟨v6, rfl, ?_, HX1.out.trans HX6.out⟩
    have h9 : nextL c a = Lib.compact ((([] : List Int).filter fun n => !decide ((ni : Int) ≤ n)).mergeSort fun x y => decide (x ≤ y)) := by unfold nextL uniq; rw [Hxd.out, Hni.out, HRaw.out]
    rw [h9, Hb0.out]
    exact HO6.out.low (by omega)
  have k46 : (x.op == 46) = false := by simpa using h46
  by_cases h47 : x.op = 47
  case pos =>
    have HRaw : Hid (nextRaw x a = []) := Lib.hid (by unfold nextRaw stops; simp [h47])
    rw [h47] at y0
    have HX3 := HX12
    have HO3 : Hid (OwnI W2 (b0 + 1) (.slice none 0 0) []) := Lib.hid (World.ownsRow_nil _ _ _ _)
    have HD := HFin [] (.slice none 0 0) W2 (by simp) HRaw.out HO3.out HX3.out
    go_wp2_with fail
    refine HD.out.mono ?_
    rintro e w4 ⟨v4, rfl, ho4, hb4, hx4⟩
    have HO4 := Lib.hid ho4
    have HX4 : Hid (Ex W1 w4) := Lib.hid (HX3.out.ex HO3.out (by rw [Hs1.out]; exact Nat.le_refl _) hx4)
    clear ho4 hb4 hx4 HD
    go_wp2_with fail
    refine (sortI_any HO4.out (Nat.le_trans (List.length_filter_le _ _) (by simp))).mono ?_
    rintro e w5 ⟨rfl, ho5, hx5⟩
    have HO5 := Lib.hid ho5
    have HX5 : Hid (Ex W1 w5) := Lib.hid (HX4.out.ex HO4.out (by rw [Hs1.out]; exact Nat.le_refl _) hx5)
    clear ho5 hx5
    go_wp2_with fail
    refine (compactI_any HO5.out).mono ?_
    rintro e w6 ⟨v6, rfl, ho6, hb6, hx6⟩
    have HO6 := Lib.hid ho6
    have HX6 : Hid (Ex W1 w6) := Lib.hid (HX5.out.ex HO5.out (by rw [Hs1.out]; exact Nat.le_refl _) hx6)
    clear ho6 hb6 hx6
    go_wp2_with fail
    rw [← HM.out]
    refine ⟨v6, rfl, ?_, HX1.out.trans HX6.out⟩
    have h9 : nextL c a = Lib.compact ((([] : List Int).filter fun n => !decide ((ni : Int) ≤ n)).mergeSort fun x y => decide (x ≤ y)) := by unfold nextL uniq; rw [Hxd.out, Hni.out, HRaw.out]
    rw [h9, Hb0.out]
    exact HO6.out.low (by omega)
  have k47 : (x.op == 47) = false := by simpa using h47
  by_cases h54 : x.op = 54
  case pos =>
    have HRaw : Hid (nextRaw x a = []) := Lib.hid (by unfold nextRaw stops; simp [h54])
    rw [h54] at y0
    have HX3 := HX12
    have HO3 : Hid (OwnI W2 (b0 + 1) (.slice none 0 0) []) := Lib.hid (World.ownsRow_nil _ _ _ _)
    have HD := HFin [] (.slice none 0 0) W2 (by simp) HRaw.out HO3.out HX3.out
    go_wp2_with fail
    refine HD.out.mono ?_
    rintro e w4 ⟨v4, rfl, ho4, hb4, hx4⟩
    have HO4 := Lib.hid ho4
    have HX4 : Hid (Ex W1 w4) := Lib.hid (HX3.out.ex HO3.out (by rw [Hs1.out]; exact Nat.le_refl _) hx4)
    clear ho4 hb4 hx4 HD
    go_wp2_with fail
    refine (sortI_any HO4.out (Nat.le_trans (List.length_filter_le _ _) (by simp))).mono ?_
    rintro e w5 ⟨rfl, ho5, hx5⟩
    have HO5 := Lib.hid ho5
    have HX5 : Hid (Ex W1 w5) := Lib.hid (HX4.out.ex HO4.out (by rw [Hs1.out]; exact Nat.le_refl _) hx5)
    clear ho5 hx5
    go_wp2_with fail
    refine (compactI_any HO5.out).mono ?_
    rintro e w6 ⟨v6, rfl, ho6, hb6, hx6⟩
    have HO6 := Lib.hid ho6
    have HX6 : Hid (Ex W1 w6) := Lib.hid (HX5.out.ex HO5.out (by rw [Hs1.out]; exact Nat.le_refl _) hx6)
    clear ho6 hb6 hx6
    go_wp2_with fail
    rw [← HM.out]
    refine ⟨v6, rfl, ?_, HX1.out.trans HX6.out⟩
    have h9 : nextL c a = Lib.compact ((([] : List Int).filter fun n => !decide ((ni : Int) ≤ n)).mergeSort fun x y => decide (x ≤ y)) := by unfold nextL uniq; rw [Hxd.out, Hni.out, HRaw.out]
    rw [h9, Hb0.out]
    exact HO6.out.low (by omega)
  have k54 : (x.op == 54) = false := by simpa using h54
  by_cases h55 : x.op = 55
  case pos =>
    have HRaw : Hid (nextRaw x a = []) := Lib.hid (by unfold nextRaw stops; simp [h55])
    rw [h55] at y0
    have HX3 := HX12
    have HO3 : Hid (OwnI W2 (b0 + 1) (.slice none 0 0) []) := Lib.hid (World.ownsRow_nil _ _ _ _)
    have HD := HFin [] (.slice none 0 0) W2 (by simp) HRaw.out HO3.out HX3.out
    go_wp2_with fail
    refine HD.out.mono ?_
    rintro e w4 ⟨v4, rfl, ho4, hb4, hx4⟩
    have HO4 := Lib.hid ho4
    have HX4 : Hid (Ex W1 w4) := Lib.hid (HX3.out.ex HO3.out (by rw [Hs1.out]; exact Nat.le_refl _) hx4)
    clear ho4 hb4 hx4 HD
    go_wp2_with fail
    refine (sortI_any HO4.out (Nat.le_trans (List.length_filter_le _ _) (by simp))).mono ?_
    rintro e w5 ⟨rfl, ho5, hx5⟩
    have HO5 := Lib.hid ho5
    have HX5 : Hid (Ex W1 w5) := Lib.hid (HX4.out.ex HO4.out (by rw [Hs1.out]; exact Nat.le_refl _) hx5)
    clear ho5 hx5
    go_wp2_with fail
    refine (compactI_any HO5.out).mono ?_
    rintro e w6 ⟨v6, rfl, ho6, hb6, hx6⟩
    have HO6 := Lib.hid ho6
    have HX6 : Hid (Ex W1 w6) := Lib.hid (HX5.out.ex HO5.out (by rw [Hs1.out]; exact Nat.le_refl _) hx6)
    clear ho6 hb6 hx6
    go_wp2_with fail
    rw [← HM.out]
    refine ⟨v6, rfl, ?_, HX1.out.trans HX6.out⟩
    have h9 : nextL c a = Lib.compact ((([] : List Int).filter fun n => !decide ((ni : Int) ≤ n)).mergeSort fun x y => decide (x ≤ y)) := by unfold nextL uniq; rw [Hxd.out, Hni.out, HRaw.out]
    rw [h9, Hb0.out]
    exact HO6.out.low (by omega)
  have k55 : (x.op == 55) = false := by simpa using h55
  have HSt : Hid (stops x.op = false) := Lib.hid (by unfold stops; simp [h36, h46, h47, h54, h55])
  by_cases h42 : x.op = 42
  case pos =>
    have HRaw : Hid (nextRaw x a = [x.a]) := Lib.hid (by unfold nextRaw; rw [HSt.out]; simp [h42])
    rw [h42] at y0
    obtain ⟨W3, hW3⟩ : ∃ W3, W2.alloc (.cells #[.int .i64 (x.a)] 3) = W3 := ⟨_, rfl⟩
    have hX3 : Ex W1 W3 := by rw [← hW3]; exact HX12.out.alloc _
    have hO3 : OwnI W3 (b0 + 1) (.slice (some ⟨b0 + 2, 0, none⟩) 1 1) [x.a] := by rw [← hW3, ← Hs2.out]; exact Blk.ownI (l := [x.a]) (Blk.new W2 _ _) (by rw [Hs2.out]; omega) (by simp)
    have HX3 := Lib.hid hX3; have HO3 := Lib.hid hO3; have HW3 := Lib.hid hW3
    clear hX3 hO3 hW3
    have HD := HFin [x.a] (.slice (some ⟨b0 + 2, 0, none⟩) 1 1) W3 (by simp) HRaw.out HO3.out HX3.out
    go_wp2_with fail
    rw [HW3.out]
    try rw [Hs2.out]
    refine HD.out.mono ?_
    rintro e w4 ⟨v4, rfl, ho4, hb4, hx4⟩
    have HO4 := Lib.hid ho4
    have HX4 : Hid (Ex W1 w4) := Lib.hid (HX3.out.ex HO3.out (by rw [Hs1.out]; exact Nat.le_refl _) hx4)
    clear ho4 hb4 hx4 HD
    go_wp2_with fail
    refine (sortI_any HO4.out (Nat.le_trans (List.length_filter_le _ _) (by simp))).mono ?_
    rintro e w5 ⟨rfl, ho5, hx5⟩
    have HO5 := Lib.hid ho5
    have HX5 : Hid (Ex W1 w5) := Lib.hid (HX4.out.ex HO4.out (by rw [Hs1.out]; exact Nat.le_refl _) hx5)
    clear ho5 hx5
    go_wp2_with fail
    refine (compactI_any HO5.out).mono ?_
    rintro e w6 ⟨v6, rfl, ho6, hb6, hx6⟩
    have HO6 := Lib.hid ho6
    have HX6 : Hid (Ex W1 w6) := Lib.hid (HX5.out.ex HO5.out (by rw [Hs1.out]; exact Nat.le_refl _) hx6)
    clear ho6 hb6 hx6
    go_wp2_with fail
    rw [← HM.out]
    refine ⟨v6, rfl, ?_, HX1.out.trans HX6.out⟩
    have h9 : nextL c a = Lib.compact ((([x.a] : List Int).filter fun n => !decide ((ni : Int) ≤ n)).mergeSort fun x y => decide (x ≤ y)) := by unfold nextL uniq; rw [Hxd.out, Hni.out, HRaw.out]
    rw [h9, Hb0.out]
    exact HO6.out.low (by omega)
  have k42 : (x.op == 42) = false := by simpa using h42
  have q1 : IntKind.i64.wrap ((a : Int) + 1) = (a : Int) + 1 := by simp [IntKind.wrap_i64]; omega
  by_cases h43 : x.op = 43
  case pos =>
    have HRaw : Hid (nextRaw x a = [x.a, (a : Int) + 1]) := Lib.hid (by unfold nextRaw; rw [HSt.out]; simp [h43])
    rw [h43] at y0
    obtain ⟨W3, hW3⟩ : ∃ W3, W2.alloc (.cells #[.int .i64 (x.a), .int .i64 ((a : Int) + 1)] 3) = W3 := ⟨_, rfl⟩
    have hX3 : Ex W1 W3 := by rw [← hW3]; exact HX12.out.alloc _
    have hO3 : OwnI W3 (b0 + 1) (.slice (some ⟨b0 + 2, 0, none⟩) 2 2) [x.a, (a : Int) + 1] := by rw [← hW3, ← Hs2.out]; exact Blk.ownI (l := [x.a, (a : Int) + 1]) (Blk.new W2 _ _) (by rw [Hs2.out]; omega) (by simp)
    have HX3 := Lib.hid hX3; have HO3 := Lib.hid hO3; have HW3 := Lib.hid hW3
    clear hX3 hO3 hW3
    have HD := HFin [x.a, (a : Int) + 1] (.slice (some ⟨b0 + 2, 0, none⟩) 2 2) W3 (by simp) HRaw.out HO3.out HX3.out
    go_wp2_with fail
    rw [HW3.out]
    try rw [Hs2.out]
    refine HD.out.mono ?_
    rintro e w4 ⟨v4, rfl, ho4, hb4, hx4⟩
    have HO4 := Lib.hid ho4
    have HX4 : Hid (Ex W1 w4) := Lib.hid (HX3.out.ex HO3.out (by rw [Hs1.out]; exact Nat.le_refl _) hx4)
    clear ho4 hb4 hx4 HD
    go_wp2_with fail
    refine (sortI_any HO4.out (Nat.le_trans (List.length_filter_le _ _) (by simp))).mono ?_
    rintro e w5 ⟨rfl, ho5, hx5⟩
    have HO5 := Lib.hid ho5
    have HX5 : Hid (Ex W1 w5) := Lib.hid (HX4.out.ex HO4.out (by rw [Hs1.out]; exact Nat.le_refl _) hx5)
    clear ho5 hx5
    go_wp2_with fail
    refine (compactI_any HO5.out).mono ?_
    rintro e w6 ⟨v6, rfl, ho6, hb6, hx6⟩
    have HO6 := Lib.hid ho6
    have HX6 : Hid (Ex W1 w6) := Lib.hid (HX5.out.ex HO5.out (by rw [Hs1.out]; exact Nat.le_refl _) hx6)
    clear ho6 hb6 hx6
    go_wp2_with fail
    rw [← HM.out]
    refine ⟨v6, rfl, ?_, HX1.out.trans HX6.out⟩
    have h9 : nextL c a = Lib.compact ((([x.a, (a : Int) + 1] : List Int).filter fun n => !decide ((ni : Int) ≤ n)).mergeSort fun x y => decide (x ≤ y)) := by unfold nextL uniq; rw [Hxd.out, Hni.out, HRaw.out]
    rw [h9, Hb0.out]
    exact HO6.out.low (by omega)
  have k43 : (x.op == 43) = false := by simpa using h43
  have HRaw : Hid (nextRaw x a = [(a : Int) + 1]) := Lib.hid (by unfold nextRaw; rw [HSt.out]; simp [h42, h43])
  obtain ⟨W3, hW3⟩ : ∃ W3, W2.alloc (.cells #[.int .i64 ((a : Int) + 1)] 3) = W3 := ⟨_, rfl⟩
  have hX3 : Ex W1 W3 := by rw [← hW3]; exact HX12.out.alloc _
  have hO3 : OwnI W3 (b0 + 1) (.slice (some ⟨b0 + 2, 0, none⟩) 1 1) [(a : Int) + 1] := by rw [← hW3, ← Hs2.out]; exact Blk.ownI (l := [(a : Int) + 1]) (Blk.new W2 _ _) (by rw [Hs2.out]; omega) (by simp)
  have HX3 := Lib.hid hX3; have HO3 := Lib.hid hO3; have HW3 := Lib.hid hW3
  clear hX3 hO3 hW3
  have HD := HFin [(a : Int) + 1] (.slice (some ⟨b0 + 2, 0, none⟩) 1 1) W3 (by simp) HRaw.out HO3.out HX3.out
  go_wp2_with fail
  rw [HW3.out]
  try rw [Hs2.out]
  refine HD.out.mono ?_
  rintro e w4 ⟨v4, rfl, ho4, hb4, hx4⟩
  have HO4 := Lib.hid ho4
  have HX4 : Hid (Ex W1 w4) := Lib.hid (HX3.out.ex HO3.out (by rw [Hs1.out]; exact Nat.le_refl _) hx4)
  clear ho4 hb4 hx4 HD
  go_wp2_with fail
  refine (sortI_any HO4.out (Nat.le_trans (List.length_filter_le _ _) (by simp))).mono ?_
  rintro e w5 ⟨rfl, ho5, hx5⟩
  have HO5 := Lib.hid ho5
  have HX5 : Hid (Ex W1 w5) := Lib.hid (HX4.out.ex HO4.out (by rw [Hs1.out]; exact Nat.le_refl _) hx5)
  clear ho5 hx5
  go_wp2_with fail
  refine (compactI_any HO5.out).mono ?_
  rintro e w6 ⟨v6, rfl, ho6, hb6, hx6⟩
  have HO6 := Lib.hid ho6
  have HX6 : Hid (Ex W1 w6) := Lib.hid (HX5.out.ex HO5.out (by rw [Hs1.out]; exact Nat.le_refl _) hx6)
  clear ho6 hb6 hx6
  go_wp2_with fail
  rw [← HM.out]
  refine ⟨v6, rfl, ?_, HX1.out.trans HX6.out⟩
  have h9 : nextL c a = Lib.compact ((([(a : Int) + 1] : List Int).filter fun n => !decide ((ni : Int) ≤ n)).mergeSort fun x y => decide (x ≤ y)) := by unfold nextL uniq; rw [Hxd.out, Hni.out, HRaw.out]
  rw [h9, Hb0.out]
  exact HO6.out.low (by omega)
/-- What Next answers. -/
def NextR (w : World) (c : Co) (at_ : Int) (e : Ending) (w' : World) : Prop :=
  if (chk c).1 = 0 ∧ 0 ≤ at_ ∧ at_ < c.instrs.length then ∃ v, e = .returned (.tuple #[v, .int .i64 0]) ∧ OwnI w' w.heap.size v (nextL c at_.toNat) ∧ Ex w w'
  else e = .returned (.tuple #[.slice none 0 0, .int .i64 1]) ∧ Ex w w'
set_option maxRecDepth 100000 in
set_option maxHeartbeats 4000000 in
theorem Next_any {w : World} {dv lv tv rv iv : Value} {c : Co} {xs : List DeV} (h : RdCo w dv lv tv rv iv c xs) (hb : Big c) (at_ : Int) :
    Calls Tryz.prog 39 #[codeV dv lv tv rv iv, .int .i64 at_] w (NextR w c at_) := by
  obtain ⟨W1, hW1⟩ : ∃ W1, w.alloc (.cells #[dv, lv, tv, rv, iv] 28) = W1 := ⟨_, rfl⟩
  obtain ⟨b0, hb0⟩ : ∃ b0, w.heap.size = b0 := ⟨_, rfl⟩
  have hX1 : Ex w W1 := by rw [← hW1]; exact (Keeps.refl _ w).alloc _
  have hB0 : Blk W1 b0 #[dv, lv, tv, rv, iv] 28 := by rw [← hW1, ← hb0]; exact Blk.new w _ _
  have hwf := wellFormed_any (h.ext hX1) hb
  have HNx : Hid (∀ (V : World) (a : Nat), Ex W1 V → a < c.instrs.length → Calls Tryz.prog 92 #[codeV dv lv tv rv iv, .int .i64 a] V fun e w' => ∃ v, e = .returned v ∧ OwnI w' V.heap.size v (nextL c a) ∧ Ex V w') := Lib.hid (fun V a hV ha => next_any ((h.ext hX1).ext hV) hb.i ha)
  obtain ⟨da, dc, rfl, -⟩ := id h.ds
  obtain ⟨la, lc, rfl, -⟩ := id h.ls
  obtain ⟨ta, tc, rfl, -⟩ := id h.ts
  obtain ⟨ra, rc, rfl, -⟩ := id h.rs
  obtain ⟨ia, ic, rfl, -⟩ := id h.is
  obtain ⟨ni, hni⟩ : ∃ n, c.instrs.length = n := ⟨_, rfl⟩
  have hs1 : b0 ≤ W1.heap.size := by rw [← hb0]; exact hX1.size
  rw [hni] at hwf hB0 hW1 HNx ⊢
  have HF0 : ∀ V, Ex W1 V → Hid (V.cell? ⟨b0, 0, none⟩ = some (.slice da xs.length dc) ∧ V.cell? ⟨b0, 1, none⟩ = some (.slice la c.labels.length lc) ∧ V.cell? ⟨b0, 2, none⟩ = some (.slice ta c.texts.length tc) ∧ V.cell? ⟨b0, 3, none⟩ = some (.slice ra c.reals.length rc) ∧ V.cell? ⟨b0, 4, none⟩ = some (.slice ia ni ic)) := fun V hV =>
    ⟨((hV.blk hB0 id).cell 0).trans rfl, ((hV.blk hB0 id).cell 1).trans rfl, ((hV.blk hB0 id).cell 2).trans rfl, ((hV.blk hB0 id).cell 3).trans rfl, ((hV.blk hB0 id).cell 4).trans rfl⟩
  unfold codeV at hwf HNx ⊢
  have HX1 := Lib.hid hX1; have HW1 := Lib.hid hW1; have Hb0 := Lib.hid hb0; have HWF := Lib.hid hwf; have Hni := Lib.hid hni; have Hs1 := Lib.hid hs1
  clear h hX1 hB0 hW1 hb0 hwf hb hni hs1
  generalize hM : NextR w c at_ = M
  have HM := Lib.hid hM
  clear hM
  obtain ⟨x0, x1, x2, x3, x4⟩ := (HF0 W1 (Keeps.refl _ _)).out
  go_enter Tryz.func39, Tryz.ntmps39
  go_upto_region 1 with fail
  rw [HW1.out]
  try rw [Hb0.out]
  by_cases hg : (chk c).1 = 0
  case neg =>
    rw [decide_eq_false hg] at HWF
    have HG := Lib.hid hg
    go_wp2_with (go_at_call 46; refine HWF.out.mono ?_; rintro e w3 ⟨rfl, hx⟩; have HX := Lib.hid (HX1.out.trans hx); clear hx)
    rw [← HM.out]
    unfold NextR
    rw [if_neg (fun h => HG.out h.1)]
    exact ⟨rfl, HX.out⟩
  rw [decide_eq_true hg] at HWF
  have HG := Lib.hid hg
  clear hg
  go_wp2_with fail
  refine HWF.out.mono ?_
  rintro e w2 ⟨rfl, hx⟩
  have HX2 := Lib.hid hx
  clear hx x0 x1 x2 x3 x4
  obtain ⟨x0, x1, x2, x3, x4⟩ := (HF0 w2 HX2.out).out
  by_cases h1 : 0 ≤ at_
  case neg =>
    have q : at_ < 0 := by omega
    go_wp2_with fail
    rw [← HM.out]
    unfold NextR
    rw [if_neg (fun h => by have := h.2.1; omega)]
    exact ⟨rfl, HX1.out.trans HX2.out⟩
  have q1 : ¬ at_ < 0 := by omega
  by_cases h2 : at_ < ni
  case neg =>
    have q : (ni : Int) ≤ at_ := by omega
    go_wp2_with fail
    rw [← HM.out]
    unfold NextR
    rw [if_neg (fun h => by have := h.2.2; rw [Hni.out] at this; omega)]
    exact ⟨rfl, HX1.out.trans HX2.out⟩
  have q2 : ¬ (ni : Int) ≤ at_ := by omega
  obtain ⟨a0, rfl⟩ : ∃ a : Nat, at_ = a := ⟨at_.toNat, by omega⟩
  have HA0 : Hid (a0 < ni) := Lib.hid (by omega)
  go_wp2_with fail
  refine (HNx.out w2 a0 HX2.out HA0.out).mono ?_
  rintro e w3 ⟨v3, rfl, ho3, hx3⟩
  have HO3 := Lib.hid ho3; have HX3 := Lib.hid hx3
  clear ho3 hx3
  go_wp2_with fail
  rw [← HM.out]
  unfold NextR
  rw [if_pos ⟨HG.out, by omega, by rw [Hni.out]; have := HA0.out; omega⟩]
  refine ⟨v3, rfl, ?_, HX1.out.trans (HX2.out.trans HX3.out)⟩
  exact HO3.out.low (by have := HX2.out.size; have := HX1.out.size; omega)
end Go.Proofs.YtlaepkmnbbgbcaaGreatDoor
/- Reached, in plain Lean. -/
namespace Go.Proofs.YtlaepkmnbbgbcaaGreatDoor
open Go.RowKit Go.Instr Go.Sort
set_option linter.unusedVariables false
set_option linter.unusedSimpArgs false

/-- A place that is reached. -/
inductive Rch (c : Co) : Nat → Prop
  | entry {i : Nat} : (i : Int) ∈ entries c → Rch c i
  | step {j i : Nat} : Rch c j → (i : Int) ∈ nextL c j → Rch c i
theorem mem_uniq {l : List Int} {n : Int} : n ∈ uniq l ↔ n ∈ l := (uniq_spec l).2 n
theorem entries_ok {c : Co} (h : Good c) {n : Int} (hn : n ∈ entries c) : ∃ i : Nat, n = i ∧ i < c.instrs.length := by
  unfold entries at hn
  rw [mem_uniq, List.mem_filter] at hn
  obtain ⟨h1, h2⟩ := hn
  have h3 : 0 ≤ n := by simpa using h2
  have hp := h.i1
  refine ⟨n.toNat, by omega, ?_⟩
  have h4 : n < c.instrs.length := by
    unfold entL at h1
    simp only [List.cons_append, List.mem_cons, List.mem_append, List.mem_flatMap] at h1
    rcases h1 with rfl | ⟨d, hd, hx⟩ | ⟨l, hl, hx⟩
    · omega
    · obtain ⟨g1, g2, g3, g4⟩ := good_desc h hd
      unfold De.places at hx
      simp only [List.mem_cons, List.not_mem_nil, or_false] at hx
      rcases hx with rfl | rfl | rfl | rfl <;> assumption
    · obtain ⟨g1, g2⟩ := h.labels l hl
      simp only [List.mem_cons, List.not_mem_nil, or_false] at hx
      rcases hx with rfl | rfl
      · exact good_inside g1
      · exact good_inside g2
  omega
theorem nextL_mem {c : Co} {a : Nat} {n : Int} : n ∈ nextL c a ↔ n ∈ nextRaw (c.instrs.getD a default) a ∧ n < c.instrs.length := by
  unfold nextL
  rw [mem_uniq, List.mem_filter]
  simp
theorem nextRaw_len (x : Ins) (a : Int) : (nextRaw x a).length ≤ 2 := by
  unfold nextRaw; split
  · simp
  · split
    · simp
    · split <;> simp
theorem nextL_len (c : Co) (a : Nat) : (nextL c a).length ≤ 2 :=
  Nat.le_trans (uniq_len _) (Nat.le_trans (List.length_filter_le _ _) (nextRaw_len _ _))
theorem nextL_ok {c : Co} (h : Good c) {a : Nat} (ha : a < c.instrs.length) {n : Int} (hn : n ∈ nextL c a) : ∃ i : Nat, n = i ∧ i < c.instrs.length := by
  rw [nextL_mem] at hn
  obtain ⟨h1, h2⟩ := hn
  have hx : c.instrs.getD a default ∈ c.instrs := by
    rw [List.getD_eq_getElem?_getD, List.getElem?_eq_getElem ha]; exact List.getElem_mem ha
  generalize c.instrs.getD a default = x at h1 hx
  have h3 : 0 ≤ n := by
    unfold nextRaw at h1
    split at h1
    · simp at h1
    · split at h1
      · rename_i e; simp only [List.mem_cons, List.not_mem_nil, or_false] at h1; rw [h1]; exact (good_jump h hx (.inl e)).1
      · split at h1
        · rename_i e
          simp only [List.mem_cons, List.not_mem_nil, or_false] at h1
          rcases h1 with h1 | h1
          · rw [h1]; exact (good_jump h hx (.inr e)).1
          · omega
        · simp only [List.mem_cons, List.not_mem_nil, or_false] at h1; omega
  exact ⟨n.toNat, by omega, by omega⟩
structure RInv (c : Co) (td : List Int) (bs : List Bool) : Prop where
  len : bs.length = c.instrs.length
  tdok : ∀ x ∈ td, ∃ i : Nat, x = i ∧ i < c.instrs.length ∧ Rch c i
  sound : ∀ i : Nat, bs[i]? = some true → Rch c i
  ent : ∀ i : Nat, (i : Int) ∈ entries c → bs[i]? = some true ∨ (i : Int) ∈ td
  cl : ∀ j i : Nat, bs[j]? = some true → (i : Int) ∈ nextL c j → bs[i]? = some true ∨ (i : Int) ∈ td
theorem RInv.begin {c : Co} (h : Good c) : RInv c (entries c) (List.replicate c.instrs.length false) where
  len := by simp
  tdok := fun x hx => by
    obtain ⟨i, rfl, hi⟩ := entries_ok h hx
    exact ⟨i, rfl, hi, .entry hx⟩
  sound := fun i hi => by rw [List.getElem?_replicate] at hi; split at hi <;> simp at hi
  ent := fun i hi => .inr hi
  cl := fun j i hj => by rw [List.getElem?_replicate] at hj; split at hj <;> simp at hj
theorem RInv.seen {c : Co} {td : List Int} {a : Nat} {bs : List Bool} (h : RInv c (td ++ [(a : Int)]) bs) (ha : bs[a]? = some true) : RInv c td bs where
  len := h.len
  tdok := fun x hx => h.tdok x (by simp [hx])
  sound := h.sound
  ent := fun i hi => by
    rcases h.ent i hi with h1 | h1
    · exact .inl h1
    · rcases List.mem_append.1 h1 with h1 | h1
      · exact .inr h1
      · have : i = a := by have : (i : Int) = a := (by simpa using h1); omega
        rw [this]; exact .inl ha
  cl := fun j i hj hi => by
    rcases h.cl j i hj hi with h1 | h1
    · exact .inl h1
    · rcases List.mem_append.1 h1 with h1 | h1
      · exact .inr h1
      · have : i = a := by have : (i : Int) = a := (by simpa using h1); omega
        rw [this]; exact .inl ha
theorem RInv.mark {c : Co} (hg : Good c) {td : List Int} {a : Nat} {bs : List Bool} (h : RInv c (td ++ [(a : Int)]) bs) : RInv c (td ++ nextL c a) (bs.set a true) := by
  obtain ⟨i0, e0, hlt, hra⟩ := h.tdok a (by simp)
  obtain rfl : a = i0 := by omega
  have hlt2 : a < bs.length := by rw [h.len]; exact hlt
  have hset : ∀ i : Nat, (bs.set a true)[i]? = some true ↔ i = a ∨ bs[i]? = some true := fun i => by
    rw [List.getElem?_set]
    by_cases e : a = i
    · subst e; simp [hlt2]
    · rw [if_neg e]; constructor
      · exact fun h => .inr h
      · rintro (h | h)
        · exact absurd h.symm e
        · exact h
  have keep : ∀ i : Nat, (bs[i]? = some true ∨ (i : Int) ∈ td ++ [(a : Int)]) → (bs.set a true)[i]? = some true ∨ (i : Int) ∈ td ++ nextL c a := fun i hi => by
    rcases hi with h1 | h1
    · exact .inl ((hset i).2 (.inr h1))
    · rcases List.mem_append.1 h1 with h1 | h1
      · exact .inr (List.mem_append_left _ h1)
      · exact .inl ((hset i).2 (.inl (by have : (i : Int) = a := (by simpa using h1); omega)))
  refine ⟨by rw [List.length_set]; exact h.len, fun x hx => ?_, fun i hi => ?_, fun i hi => keep i (h.ent i hi), fun j i hj hi => ?_⟩
  · rcases List.mem_append.1 hx with hx | hx
    · exact h.tdok x (by simp [hx])
    · obtain ⟨i, rfl, hi⟩ := nextL_ok hg hlt hx
      exact ⟨i, rfl, hi, .step hra hx⟩
  · rcases (hset i).1 hi with rfl | h1
    · exact hra
    · exact h.sound i h1
  · rcases (hset j).1 hj with rfl | h1
    · exact .inr (List.mem_append_right _ hi)
    · exact keep i (h.cl j i h1 hi)
theorem RInv.done {c : Co} {bs : List Bool} (h : RInv c [] bs) (i : Nat) : bs[i]? = some true ↔ Rch c i := by
  refine ⟨h.sound i, fun hr => ?_⟩
  induction hr with
  | entry hi => exact (h.ent _ hi).resolve_right (by simp)
  | step _ hi ih => exact (h.cl _ _ ih hi).resolve_right (by simp)
def falses (bs : List Bool) : Nat := bs.count false
theorem falses_set : ∀ (bs : List Bool) (a : Nat), bs[a]? = some false → falses (bs.set a true) + 1 = falses bs
  | [], a, h => by simp at h
  | b :: r, 0, h => by
    simp only [List.getElem?_cons_zero, Option.some.injEq] at h
    subst h
    simp [falses]
  | b :: r, a + 1, h => by
    simp only [List.getElem?_cons_succ] at h
    have := falses_set r a h
    unfold falses at *
    rw [List.set_cons_succ, List.count_cons, List.count_cons]
    omega
end Go.Proofs.YtlaepkmnbbgbcaaGreatDoor
/- What Strip leaves, in plain Lean: it is well-formed; without marks nothing turns. -/
namespace Go.Proofs.YtlaepkmnbbgbcaaGreatDoor
open Go.RowKit Go.Instr
set_option linter.unusedVariables false
set_option linter.unusedSimpArgs false

def nmC (c : Co) : Nat := (c.instrs.filter notMark).length
theorem toN_eq (c : Co) (i : Nat) : toN c i = (((c.instrs.take i).filter notMark).length : Nat) := rfl
theorem toN_lt {c : Co} (hl : lastOp c ≠ 53) {i : Nat} (hi : i < c.instrs.length) : ((c.instrs.take i).filter notMark).length < nmC c := by
  unfold nmC
  have h1 : c.instrs = c.instrs.take i ++ c.instrs.drop i := (List.take_append_drop i c.instrs).symm
  have h2 : (c.instrs.filter notMark).length = ((c.instrs.take i).filter notMark).length + ((c.instrs.drop i).filter notMark).length := by
    conv => lhs; rw [h1]
    rw [List.filter_append, List.length_append]
  obtain ⟨y, hy⟩ : ∃ y, c.instrs[c.instrs.length - 1]? = some y := ⟨_, List.getElem?_eq_getElem (by omega)⟩
  have hlast : lastOp c = y.op := by unfold lastOp; rw [List.getD_eq_getElem?_getD, hy]; rfl
  have hmem : y ∈ c.instrs.drop i := by
    refine List.mem_of_getElem? (i := c.instrs.length - 1 - i) ?_
    rw [List.getElem?_drop, show i + (c.instrs.length - 1 - i) = c.instrs.length - 1 by omega]; exact hy
  have hf : y ∈ (c.instrs.drop i).filter notMark := List.mem_filter.2 ⟨hmem, by unfold notMark; rw [hlast] at hl; simpa using hl⟩
  have := List.length_pos_of_mem hf
  omega
theorem moved_nat {c : Co} {i : Nat} (hi : i < c.instrs.length) : movedC c (i : Nat) = toN c i := by
  unfold movedC; rw [if_neg (by omega)]; exact toL_at c hi
theorem strip_len (c : Co) : (stripC c).instrs.length = nmC c := by
  show (stripI c).length = _
  unfold stripI nmC; rw [List.length_map]
theorem strip_place {c : Co} (hl : lastOp c ≠ 53) {n : Int} (h : placeB c n = true) : placeB (stripC c) (movedC c n) = true := by
  unfold placeB at h ⊢
  simp only [Bool.and_eq_true, decide_eq_true_eq] at h ⊢
  rw [strip_len]
  by_cases hn : n < 0
  · have : movedC c n = n := by unfold movedC; rw [if_pos hn]
    rw [this]; omega
  · obtain ⟨i, rfl⟩ : ∃ i : Nat, n = i := ⟨n.toNat, by omega⟩
    rw [moved_nat (by omega), toN_eq]
    have := toN_lt hl (i := i) (by omega)
    omega
theorem strip_inside {c : Co} (hl : lastOp c ≠ 53) {n : Int} (h : insideB c n = true) : insideB (stripC c) (movedC c n) = true := by
  unfold insideB at h ⊢
  simp only [Bool.and_eq_true, decide_eq_true_eq] at h ⊢
  rw [strip_len]
  obtain ⟨i, rfl⟩ : ∃ i : Nat, n = i := ⟨n.toNat, by omega⟩
  rw [moved_nat (by omega), toN_eq]
  have := toN_lt hl (i := i) (by omega)
  omega
theorem de_f {α : Type} (c : Co) (f : De → α) (hf : ∀ x, f (stripD c x) = f x) (i : Int) : f ((stripC c).de i) = f (c.de i) := by
  unfold Co.de stripC
  rw [List.getD_eq_getElem?_getD, List.getD_eq_getElem?_getD, List.getElem?_map]
  cases h : c.descs[i.toNat]? with
  | none => rfl
  | some x => exact hf x
theorem de_in {c : Co} {i : Nat} (hi : i < c.descs.length) : (stripC c).de i = stripD c (c.de i) := by
  unfold Co.de stripC
  rw [List.getD_eq_getElem?_getD, List.getD_eq_getElem?_getD, List.getElem?_map, show (((i : Nat) : Int).toNat) = i from rfl, List.getElem?_eq_getElem hi]; rfl
theorem strip_descs (c : Co) : (stripC c).descs.length = c.descs.length := by show (c.descs.map _).length = _; rw [List.length_map]
theorem strip_level (c : Co) (d : De) (q : Nat) : levelB (stripC c) (stripD c d) q = levelB c d q := by
  unfold levelB
  rw [strip_descs, de_f c De.chain (fun _ => rfl)]; rfl
theorem strip_virt (c : Co) (d : De) (q : Nat) : virtB (stripC c) (stripD c d) q = virtB c d q := by
  unfold virtB
  rw [strip_descs]; rfl
theorem strip_chain (c : Co) (i : Nat) (d : De) : chainB (stripC c) i (stripD c d) = chainB c i d := by
  unfold chainB
  have : levelB (stripC c) (stripD c d) = levelB c d := funext fun q => strip_level c d q
  rw [this]; rfl
theorem strip_before (c : Co) (d : De) : beforeD (stripC c) (stripD c d) = beforeD c d := by
  unfold beforeD
  rw [de_f c De.offset (fun _ => rfl), de_f c De.cells (fun _ => rfl)]; rfl
theorem strip_desc {c : Co} (hl : lastOp c ≠ 53) {i : Nat} (hi : i < c.descs.length) (h : descB c i = true) : descB (stripC c) i = true := by
  unfold descB at h ⊢
  rw [de_in hi]
  dsimp only at h ⊢
  have hv : virtB (stripC c) (stripD c (c.de i)) = virtB c (c.de i) := funext fun q => strip_virt c _ q
  rw [strip_chain, strip_before, hv]
  simp only [Bool.and_eq_true] at h ⊢
  obtain ⟨⟨⟨⟨⟨⟨⟨h1, hv2⟩, h2⟩, h3⟩, h4⟩, h5⟩, h6⟩, h7⟩ := h
  exact ⟨⟨⟨⟨⟨⟨⟨h1, hv2⟩, strip_place hl h2⟩, strip_place hl h3⟩, strip_place hl h4⟩, strip_place hl h5⟩, h6⟩, h7⟩
def isI (k : Ck) : Bool := match k with | .idx f => decide (f = 102) | _ => false
theorem ops_idx : (opT.all fun o => (!(isI o.a) || decide (o.key = 42) || decide (o.key = 43)) && !(isI o.b)) = true := by decide +kernel
theorem ops_jump : (opT.all fun o => !(decide (o.key = 42) || decide (o.key = 43)) || isI o.a) = true := by decide +kernel
theorem strip_ck {c : Co} {k : Ck} (hk : isI k = false) (n : Int) : ckB (stripC c) k n = ckB c k n := by
  cases k with
  | none => rfl
  | btw lo hi => rfl
  | idx f =>
    have hf : ¬ f = 102 := by unfold isI at hk; simpa using hk
    have : (stripC c).lenOf f = c.lenOf f := by
      unfold Co.lenOf
      rw [if_neg hf, if_neg hf, strip_descs, show (stripC c).labels.length = c.labels.length from List.length_map ..]
      rfl
    show decide (0 ≤ n ∧ n < ((stripC c).lenOf f : Nat)) = decide (0 ≤ n ∧ n < (c.lenOf f : Nat))
    rw [this]
  | int => rfl
  | text => rfl
theorem strip_ins {c : Co} (hg : Good c) (hl : lastOp c ≠ 53) {x : Ins} (hx : x ∈ c.instrs) : insE (stripC c) (moveI c x) = 0 := by
  have he := hg.instrs x hx
  have hop : (moveI c x).op = x.op := by unfold moveI; split <;> rfl
  have hb : (moveI c x).b = x.b := by unfold moveI; split <;> rfl
  unfold insE at he ⊢
  rw [hop]
  cases ho : opFind x.op with
  | none => rw [ho] at he; simp at he
  | some o =>
    rw [ho] at he
    simp only at he ⊢
    have hm := List.mem_of_find?_eq_some ho
    have hok : o.key = x.op := by simpa [opFind] using List.find?_some ho
    have h1 := List.all_eq_true.1 ops_idx o hm
    have h2 := List.all_eq_true.1 ops_jump o hm
    simp only [Bool.and_eq_true, Bool.or_eq_true, Bool.not_eq_true', decide_eq_true_eq] at h1 h2
    have hc : (ckB c o.a x.a && ckB c o.b x.b) = true := by
      cases hv : (ckB c o.a x.a && ckB c o.b x.b) with
      | true => rfl
      | false => rw [hv] at he; simp at he
    simp only [Bool.and_eq_true] at hc
    rw [hb, strip_ck h1.2, hc.2, Bool.and_true]
    by_cases hj : x.op = 42 ∨ x.op = 43
    · have ha : (moveI c x).a = movedC c x.a := by unfold moveI; rw [if_pos hj]
      obtain ⟨g1, g2⟩ := good_jump hg hx hj
      have hi : isI o.a = true := by
        rcases h2 with h2 | h2
        · rw [hok] at h2
          rcases hj with e | e <;> simp [e] at h2
        · exact h2
      obtain ⟨i, hi2⟩ : ∃ i : Nat, x.a = i := ⟨x.a.toNat, by omega⟩
      rw [ha, hi2, moved_nat (by omega), toN_eq]
      have hlt := toN_lt hl (i := i) (by omega)
      cases hoa : o.a with
      | idx f =>
        rw [hoa] at hi
        have hf : f = 102 := by unfold isI at hi; simpa using hi
        have hck : ckB (stripC c) (.idx f) (((c.instrs.take i).filter notMark).length : Nat) = true := by
          obtain ⟨m, hm⟩ : ∃ m, ((c.instrs.take i).filter notMark).length = m := ⟨_, rfl⟩
          rw [hm] at hlt ⊢
          show decide ((0 : Int) ≤ (m : Int) ∧ (m : Int) < (((stripC c).lenOf f : Nat) : Int)) = true
          have : (stripC c).lenOf f = nmC c := by unfold Co.lenOf; rw [if_pos hf, strip_len]
          rw [this]
          exact decide_eq_true ⟨by omega, by omega⟩
        rw [hck]; rfl
      | none => rw [hoa] at hi; cases hi
      | btw lo hi3 => rw [hoa] at hi; cases hi
      | int => rw [hoa] at hi; cases hi
      | text => rw [hoa] at hi; cases hi
    · have ha : (moveI c x).a = x.a := by unfold moveI; rw [if_neg hj]
      have hi : isI o.a = false := by
        cases hv : isI o.a with
        | false => rfl
        | true =>
          rcases h1.1 with (h3 | h3) | h3
          · rw [hv] at h3; cases h3
          · exact absurd (.inl (by rw [← hok]; exact h3)) hj
          · exact absurd (.inr (by rw [← hok]; exact h3)) hj
      rw [ha, strip_ck hi, hc.1]; rfl
theorem strip_good {c : Co} (hg : Good c) (hl : lastOp c ≠ 53) : Good (stripC c) where
  i1 := by rw [strip_len]; have := toN_lt hl (i := 0) (by have := hg.i1; omega); omega
  i2 := by rw [strip_len]; exact Nat.le_trans (List.length_filter_le _ _) hg.i2
  d1 := by rw [strip_descs]; exact hg.d1
  d2 := by rw [strip_descs]; exact hg.d2
  l2 := by show (c.labels.map _).length ≤ _; rw [List.length_map]; exact hg.l2
  t2 := hg.t2
  r2 := hg.r2
  descs := fun i hi => by rw [strip_descs] at hi; exact strip_desc hl hi (hg.descs i hi)
  labels := fun l hll => by
    obtain ⟨l0, h0, rfl⟩ := List.mem_map.1 (show l ∈ c.labels.map (stripL c) from hll)
    obtain ⟨g1, g2⟩ := hg.labels l0 h0
    exact ⟨strip_inside hl g1, strip_inside hl g2⟩
  texts := hg.texts
  reals := hg.reals
  instrs := fun x hx => by
    obtain ⟨y, hy, rfl⟩ := List.mem_map.1 (show x ∈ (c.instrs.filter notMark).map (moveI c) from hx)
    exact strip_ins hg hl (List.mem_filter.1 hy).1
/-! ### Without marks -/
theorem strip_nomark (c : Co) : ∀ x ∈ (stripC c).instrs, notMark x = true := by
  intro x hx
  obtain ⟨y, hy, rfl⟩ := List.mem_map.1 (show x ∈ (c.instrs.filter notMark).map (moveI c) from hx)
  have := (List.mem_filter.1 hy).2
  unfold notMark at this ⊢
  have hop : (moveI c y).op = y.op := by unfold moveI; split <;> rfl
  rw [hop]; exact this
theorem nomark_last {c : Co} (hg : Good c) (h : ∀ x ∈ c.instrs, notMark x = true) : lastOp c ≠ 53 := by
  have h1 := hg.i1
  obtain ⟨y, hy⟩ : ∃ y, c.instrs[c.instrs.length - 1]? = some y := ⟨_, List.getElem?_eq_getElem (by omega)⟩
  have hlast : lastOp c = y.op := by unfold lastOp; rw [List.getD_eq_getElem?_getD, hy]; rfl
  have := h y (List.mem_of_getElem? hy)
  unfold notMark at this
  rw [hlast]; simpa using this
theorem nomark_moved {c : Co} (h : ∀ x ∈ c.instrs, notMark x = true) {n : Int} (hn : n < c.instrs.length) : movedC c n = n := by
  by_cases h0 : n < 0
  · unfold movedC; rw [if_pos h0]
  · obtain ⟨i, rfl⟩ : ∃ i : Nat, n = i := ⟨n.toNat, by omega⟩
    rw [moved_nat (by omega), toN_eq, List.filter_eq_self.2 (fun x hx => h x (List.mem_of_mem_take hx)), List.length_take]
    omega
/-- A code without marks stays. -/
theorem nomark_strip {c : Co} (hg : Good c) (h : ∀ x ∈ c.instrs, notMark x = true) : stripC c = c := by
  obtain ⟨descs, labels, texts, reals, instrs⟩ := c
  unfold stripC
  congr 1
  · refine (List.map_congr_left fun d hd => ?_).trans (List.map_id _)
    obtain ⟨g1, g2, g3, g4⟩ := good_desc hg hd
    unfold stripD
    rw [nomark_moved h g1, nomark_moved h g2, nomark_moved h g3, nomark_moved h g4]; rfl
  · refine (List.map_congr_left fun l hl => ?_).trans (List.map_id _)
    obtain ⟨g1, g2⟩ := hg.labels l hl
    unfold stripL
    rw [nomark_moved h (good_inside g1), nomark_moved h (good_inside g2)]; rfl
  · unfold stripI
    rw [List.filter_eq_self.2 h]
    refine (List.map_congr_left fun x hx => ?_).trans (List.map_id _)
    unfold moveI
    split
    · rename_i hj
      rw [nomark_moved h (good_jump hg hx hj).2]; rfl
    · rfl
end Go.Proofs.YtlaepkmnbbgbcaaGreatDoor
