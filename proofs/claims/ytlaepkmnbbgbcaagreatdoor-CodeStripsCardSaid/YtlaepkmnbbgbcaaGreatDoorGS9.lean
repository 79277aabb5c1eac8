/- The reference's behind and moved. -/
import Derived.Test.YtlaepkmnbbgbcaaGreatDoorGS8
import Derived.Test.YtlaepkmnbbgbcaaGreatDoorGB17
/- The reference's behind and moved. -/
namespace Go.Proofs.YtlaepkmnbbgbcaaGreatDoor
open Go.RowKit Go.Instr Go.Sort
set_option linter.unusedVariables false
set_option linter.unusedSimpArgs false
attribute [local go_sem] Oper.semAt_some

theorem toN_step (c : Co) {k : Nat} {x : Ins} (hx : c.instrs[k]? = some x) : toN c (k + 1) = if x.op = 53 then toN c k else toN c k + 1 := by
  unfold toN
  rw [List.take_add_one, hx, List.filter_append, List.length_append]
  by_cases h : x.op = 53
  · rw [if_pos h]
    have : [x].filter notMark = [] := by simp [notMark, h]
    show ((_ + ([x].filter notMark).length : Nat) : Int) = _
    rw [this]; simp
  · rw [if_neg h]
    have : [x].filter notMark = [x] := by simp [notMark, h]
    show ((_ + ([x].filter notMark).length : Nat) : Int) = _
    rw [this]; simp
theorem toN_le (c : Co) (k : Nat) : 0 ≤ toN c k ∧ toN c k ≤ k := by
  unfold toN
  have h1 := List.length_filter_le notMark (c.instrs.take k)
  have h2 := List.length_take_le k c.instrs
  omega
set_option maxRecDepth 100000 in
set_option maxHeartbeats 4000000 in
theorem behind_any {w : World} {dv lv tv rv iv : Value} {c : Co} {xs : List DeV} (h : RdCo w dv lv tv rv iv c xs) (hb : Big c) (m : Nat) (hm : m ≤ c.instrs.length) :
    Calls Tryz.prog 95 #[codeV dv lv tv rv iv, .int .i64 m] w fun e w' => e = .returned (.int .i64 (toN c m)) ∧ Ex w w' := by
  have hni : c.instrs.length ≤ 1000000 := hb.i
  obtain ⟨da, dc, rfl, -⟩ := id h.ds
  obtain ⟨la, lc, rfl, -⟩ := id h.ls
  obtain ⟨ta, tc, rfl, -⟩ := id h.ts
  obtain ⟨ra, rc, rfl, -⟩ := id h.rs
  obtain ⟨ia, ic, rfl, -, hi0, -⟩ := id h.is
  obtain ⟨b0, hb0⟩ : ∃ b0, w.heap.size = b0 := ⟨_, rfl⟩
  obtain ⟨W1, hW1⟩ : ∃ W1, w.alloc (.cells #[.slice da xs.length dc, .slice la c.labels.length lc, .slice ta c.texts.length tc, .slice ra c.reals.length rc, .slice ia c.instrs.length ic] 28) = W1 := ⟨_, rfl⟩
  have hX1 : Ex w W1 := by rw [← hW1]; exact (Keeps.refl _ w).alloc _
  have hB0 : Blk W1 b0 #[.slice da xs.length dc, .slice la c.labels.length lc, .slice ta c.texts.length tc, .slice ra c.reals.length rc, .slice ia c.instrs.length ic] 28 := by rw [← hW1, ← hb0]; exact Blk.new w _ _
  have x4 : W1.cell? ⟨b0, 4, none⟩ = some (.slice ia c.instrs.length ic) := (hB0.cell 4).trans rfl
  have HIs := Lib.hid (h.is.ext hX1); have Hi0 := Lib.hid hi0; have HX1 := Lib.hid hX1; have HW1 := Lib.hid hW1; have Hb0 := Lib.hid hb0
  clear h hb hX1 hB0 hW1 hb0 hi0
  unfold codeV
  go_enter Tryz.func95, Tryz.ntmps95
  go_upto_region 1 with fail
  rw [HW1.out]
  try rw [Hb0.out]
  go_wp2_with fail
  go_loopw [5, 6] (fun s5 s6 wr => ∃ k : Nat, k ≤ m ∧ s5 = .int .i64 (toN c k) ∧ s6 = .int .i64 k ∧ wr = W1) (fun s5 s6 wr => m - (intOf s6).toNat)
  case atStart => exact ⟨0, Nat.zero_le _, rfl, rfl, rfl⟩
  case round =>
    obtain ⟨k, hk, rfl, rfl, hw⟩ := hrel
    subst hw
    by_cases hlt : k < m
    case pos =>
      obtain ⟨iad, rfl⟩ := rd_some (enc := encN) (w := w) (c := ic) Hi0.out rfl (by omega : k < c.instrs.length)
      obtain ⟨v, hv⟩ : ∃ v, c.instrs[k]? = some v := ⟨_, List.getElem?_eq_getElem (by omega)⟩
      obtain ⟨A, hA⟩ : ∃ A, iad.add (k * 3) = A := ⟨_, rfl⟩
      obtain ⟨z0, -, -⟩ := HIs.out.insCells hv hA
      have hst := toN_step c hv
      have hle := toN_le c k
      have s1 : (k : Int) < m := by omega
      have s2 : (k : Int) < c.instrs.length := by omega
      have s3 : wrap64 (toN c k + 1) = toN c k + 1 := by unfold wrap64; omega
      have Hst := Lib.hid hst
      clear hv hst hle
      by_cases h53 : v.op = 53
      · have h53b : (v.op != 53) = false := by simpa using h53
        have h5 : Hid (toN c (k + 1) = toN c k) := Lib.hid (by rw [Hst.out, if_pos h53])
        clear h53
        go_wp2_with fail
        go_roundw
        case rel => exact ⟨k + 1, by omega, by rw [h5.out], by go_num, by trivial⟩
        case measure => simp [intOf]; omega
      · have h53b : (v.op != 53) = true := by simpa using h53
        have h5 : Hid (toN c (k + 1) = toN c k + 1) := Lib.hid (by rw [Hst.out, if_neg h53])
        clear h53
        go_wp2_with fail
        go_roundw
        case rel => exact ⟨k + 1, by omega, by rw [h5.out]; go_num, by go_num, by trivial⟩
        case measure => simp [intOf]; omega
    case neg =>
      have hkm : k = m := by omega
      subst hkm
      go_wp2_with fail
      go_ret
      exact ⟨rfl, HX1.out⟩
set_option maxRecDepth 100000 in
set_option maxHeartbeats 4000000 in
theorem rmoved_any {w : World} {dv lv tv rv iv : Value} {c : Co} {xs : List DeV} (h : RdCo w dv lv tv rv iv c xs) (hb : Big c) (n : Int) (hn : n < c.instrs.length) :
    Calls Tryz.prog 53 #[codeV dv lv tv rv iv, .int .i64 n] w fun e w' => e = .returned (.int .i64 (movedC c n)) ∧ Ex w w' := by
  have HBe : Hid (∀ V, Ex w V → ∀ m : Nat, m ≤ c.instrs.length → Calls Tryz.prog 95 #[codeV dv lv tv rv iv, .int .i64 m] V fun e w' => e = .returned (.int .i64 (toN c m)) ∧ Ex V w') := Lib.hid (fun V hV m hm => behind_any (h.ext hV) hb m hm)
  obtain ⟨da, dc, rfl, -⟩ := id h.ds
  obtain ⟨la, lc, rfl, -⟩ := id h.ls
  obtain ⟨ta, tc, rfl, -⟩ := id h.ts
  obtain ⟨ra, rc, rfl, -⟩ := id h.rs
  obtain ⟨ia, ic, rfl, -⟩ := id h.is
  obtain ⟨b0, hb0⟩ : ∃ b0, w.heap.size = b0 := ⟨_, rfl⟩
  obtain ⟨W1, hW1⟩ : ∃ W1, w.alloc (.cells #[.slice da xs.length dc, .slice la c.labels.length lc, .slice ta c.texts.length tc, .slice ra c.reals.length rc, .slice ia c.instrs.length ic] 28) = W1 := ⟨_, rfl⟩
  have hX1 : Ex w W1 := by rw [← hW1]; exact (Keeps.refl _ w).alloc _
  have hB0 : Blk W1 b0 #[.slice da xs.length dc, .slice la c.labels.length lc, .slice ta c.texts.length tc, .slice ra c.reals.length rc, .slice ia c.instrs.length ic] 28 := by rw [← hW1, ← hb0]; exact Blk.new w _ _
  have x0 : W1.cell? ⟨b0, 0, none⟩ = some (.slice da xs.length dc) := (hB0.cell 0).trans rfl
  have x1 : W1.cell? ⟨b0, 1, none⟩ = some (.slice la c.labels.length lc) := (hB0.cell 1).trans rfl
  have x2 : W1.cell? ⟨b0, 2, none⟩ = some (.slice ta c.texts.length tc) := (hB0.cell 2).trans rfl
  have x3 : W1.cell? ⟨b0, 3, none⟩ = some (.slice ra c.reals.length rc) := (hB0.cell 3).trans rfl
  have x4 : W1.cell? ⟨b0, 4, none⟩ = some (.slice ia c.instrs.length ic) := (hB0.cell 4).trans rfl
  have HX1 := Lib.hid hX1; have HW1 := Lib.hid hW1; have Hb0 := Lib.hid hb0
  clear h hb hX1 hB0 hW1 hb0
  unfold codeV at HBe ⊢
  by_cases h0 : n < 0
  · have hr : movedC c n = n := by unfold movedC; rw [if_pos h0]
    rw [hr]
    go_enter Tryz.func53, Tryz.ntmps53
    go_upto_region 1 with fail
    rw [HW1.out]
    try rw [Hb0.out]
    go_wp2_with fail
    go_ret
    exact ⟨rfl, HX1.out⟩
  · obtain ⟨m, rfl⟩ : ∃ m : Nat, n = (m : Int) := ⟨n.toNat, by omega⟩
    have hr : movedC c m = toN c m := by unfold movedC; rw [if_neg h0, Int.toNat_natCast, toL_at c (by omega)]
    rw [hr]
    have HC := Lib.hid (HBe.out W1 HX1.out m (by omega))
    go_enter Tryz.func53, Tryz.ntmps53
    go_upto_region 1 with fail
    rw [HW1.out]
    try rw [Hb0.out]
    go_wp2_with fail
    refine HC.out.mono ?_
    rintro e w2 ⟨rfl, hx⟩
    have HX := Lib.hid (HX1.out.trans hx)
    clear hx
    go_wp2_with fail
    go_ret
    exact ⟨rfl, HX.out⟩
end Go.Proofs.YtlaepkmnbbgbcaaGreatDoor
