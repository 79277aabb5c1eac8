/- Strip, walked. -/
import Derived.Test.YtlaepkmnbbgbcaaGreatDoorGB16
import Derived.Test.YtlaepkmnbbgbcaaGreatDoorGB12
/- Strip, walked. -/
namespace Go.Proofs.YtlaepkmnbbgbcaaGreatDoor
open Go.RowKit Go.Instr Go.Shelf
set_option linter.unusedVariables false
set_option linter.unusedSimpArgs false
attribute [local go_sem] Oper.semAt_some

def lastOp (c : Co) : Int := (c.instrs.getD (c.instrs.length - 1) default).op
def zeroV : Value := codeV (.slice none 0 0) (.slice none 0 0) (.slice none 0 0) (.slice none 0 0) (.slice none 0 0)
/-- What Strip answers. -/
def StripR (w : World) (c : Co) (e : Ending) (w' : World) : Prop :=
  if (chk c).1 = 0 then
    if lastOp c = 53 then e = .returned (.tuple #[zeroV, .int .i64 5]) ∧ Ex w w'
    else ∃ dv lv tv rv iv xs, e = .returned (.tuple #[codeV dv lv tv rv iv, .int .i64 0]) ∧ RdCo w' dv lv tv rv iv (stripC c) xs ∧ Ex w w'
  else e = .returned (.tuple #[zeroV, .int .i64 1]) ∧ Ex w w'
theorem info_stN : (Tryz.prog.info? 82).map (fun i => (i.zero, i.size, i.bytes)) = some (some (.agg #[.int .i64 0, .int .i64 0, .int .i64 0]), 3, 24) := by kernel_rfl
theorem info_stL : (Tryz.prog.info? 90).map (fun i => (i.zero, i.size, i.bytes)) = some (some (.agg #[.int .i64 0, .int .i64 0]), 2, 16) := by kernel_rfl
set_option maxRecDepth 100000 in
set_option maxHeartbeats 8000000 in
theorem Strip_any {w : World} {dv lv tv rv iv : Value} {c : Co} {xs : List DeV} (h : RdCo w dv lv tv rv iv c xs) (hb : Big c) :
    Calls Tryz.prog 14 #[codeV dv lv tv rv iv] w (StripR w c) := by
  obtain ⟨n, hn⟩ : ∃ n, w.heap.size = n := ⟨_, rfl⟩
  obtain ⟨W1, hW1⟩ : ∃ W1, w.alloc (.cells #[dv, lv, tv, rv, iv] 28) = W1 := ⟨_, rfl⟩
  have hX1 : Ex w W1 := by rw [← hW1]; exact (Keeps.refl _ w).alloc _
  have hB1 : Blk W1 n #[dv, lv, tv, rv, iv] 28 := by rw [← hW1, ← hn]; exact Blk.new w _ _
  have hs1 : W1.heap.size = n + 1 := by rw [← hW1, ← hn, World.size_alloc]
  obtain ⟨W2, hW2⟩ : ∃ W2, W1.alloc (.cells #[.slice none 0 0, .slice none 0 0, .slice none 0 0, .slice none 0 0, .slice none 0 0] 28) = W2 := ⟨_, rfl⟩
  have hX12 : Ex W1 W2 := by rw [← hW2]; exact (Keeps.refl _ W1).alloc _
  have hX2 : Ex w W2 := hX1.trans hX12
  have hB12 := hX12.blk hB1 id
  have hBC : Blk W2 (n + 1) nil5 28 := by rw [← hW2, ← hs1]; exact Blk.new W1 _ _
  have hs2 : W2.heap.size = n + 2 := by rw [← hW2, World.size_alloc, hs1]
  have hwf := wellFormed_any (h.ext hX2) hb
  obtain ⟨da, dc, rfl, -, hd1, -⟩ := id h.ds
  obtain ⟨la, lc, rfl, -, hl1, -⟩ := id h.ls
  obtain ⟨ta, tc, rfl, -⟩ := id h.ts
  obtain ⟨ra, rc, rfl, -⟩ := id h.rs
  obtain ⟨ia, ic, rfl, -, hi1, -⟩ := id h.is
  obtain ⟨V1, hV1⟩ : ∃ V1 : Array Value, V1 = #[.slice da xs.length dc, .slice la c.labels.length lc, .slice ta c.texts.length tc, .slice ra c.reals.length rc, .slice ia c.instrs.length ic] := ⟨_, rfl⟩
  rw [← hV1] at hB12
  have HF0 : ∀ V, Blk V n V1 28 → Hid (V.cell? ⟨n, 0, none⟩ = some (.slice da xs.length dc) ∧ V.cell? ⟨n, 1, none⟩ = some (.slice la c.labels.length lc) ∧ V.cell? ⟨n, 2, none⟩ = some (.slice ta c.texts.length tc) ∧ V.cell? ⟨n, 3, none⟩ = some (.slice ra c.reals.length rc) ∧ V.cell? ⟨n, 4, none⟩ = some (.slice ia c.instrs.length ic)) := fun V hV => by
    subst hV1
    exact ⟨(hV.cell 0).trans rfl, (hV.cell 1).trans rfl, (hV.cell 2).trans rfl, (hV.cell 3).trans rfl, (hV.cell 4).trans rfl⟩
  have hxl := h.len
  have li := hb.i
  have l1 : xs.length ≤ 1000000 := by have := hb.d; omega
  have l2 := hb.l
  unfold codeV at hwf ⊢
  have H := Lib.hid h; have HX2 := Lib.hid hX2; have HW1 := Lib.hid hW1; have HW2 := Lib.hid hW2; have Hn := Lib.hid hn; have Hs2 := Lib.hid hs2; have HWF := Lib.hid hwf; have Hd1 := Lib.hid hd1; have Hl1 := Lib.hid hl1; have Hi1 := Lib.hid hi1; have HN := Lib.hid hxl; have HB12 := Lib.hid hB12; have HBC := Lib.hid hBC; have HBig := Lib.hid hb
  clear h hX1 hX2 hX12 hB1 hB12 hBC hW1 hW2 hn hs1 hs2 hwf hb hd1 hl1 hi1 hxl hV1
  generalize hM : StripR w c = M
  have HM := Lib.hid hM
  clear hM
  obtain ⟨x0, x1, x2, x3, x4⟩ := (HF0 W2 HB12.out).out
  go_enter Tryz.func14, Tryz.ntmps14
  go_upto_region 1 with fail
  rw [HW1.out]
  try rw [Hn.out]
  rw [HW2.out]
  by_cases hg : (chk c).1 = 0
  case neg =>
    rw [decide_eq_false hg] at HWF
    go_upto_region 2 with (go_at_call 46; refine HWF.out.mono ?_; rintro e w3 ⟨rfl, hx⟩; have HX := Lib.hid hx; clear hx)
    clear x0 x1 x2 x3 x4
    have hC3 := HX.out.blk HBC.out id
    have hsz : w.heap.size ≤ n + 1 := by rw [Hn.out]; omega
    have cc1 : w3.cell? ⟨n + 1, 0, none⟩ = some (.slice none 0 0) := (hC3.cell 0).trans rfl
    have cf1 : w3.frozen? ⟨n + 1, 0, none⟩ = false := hC3.frozen _
    obtain ⟨X1, hX1e⟩ : ∃ W, w3.setCell ⟨n + 1, 0, none⟩ (.slice none 0 0) = W := ⟨_, rfl⟩
    have hXB1 : Blk X1 (n + 1) #[.slice none 0 0, .slice none 0 0, .slice none 0 0, .slice none 0 0, .slice none 0 0] 28 := by rw [← hX1e]; exact hC3.set 0 _
    have cc2 : X1.cell? ⟨n + 1, 1, none⟩ = some (.slice none 0 0) := (hXB1.cell 1).trans rfl
    have cf2 : X1.frozen? ⟨n + 1, 1, none⟩ = false := hXB1.frozen _
    obtain ⟨X2, hX2e⟩ : ∃ W, X1.setCell ⟨n + 1, 1, none⟩ (.slice none 0 0) = W := ⟨_, rfl⟩
    have hXB2 : Blk X2 (n + 1) #[.slice none 0 0, .slice none 0 0, .slice none 0 0, .slice none 0 0, .slice none 0 0] 28 := by rw [← hX2e]; exact hXB1.set 1 _
    have cc3 : X2.cell? ⟨n + 1, 2, none⟩ = some (.slice none 0 0) := (hXB2.cell 2).trans rfl
    have cf3 : X2.frozen? ⟨n + 1, 2, none⟩ = false := hXB2.frozen _
    obtain ⟨X3, hX3e⟩ : ∃ W, X2.setCell ⟨n + 1, 2, none⟩ (.slice none 0 0) = W := ⟨_, rfl⟩
    have hXB3 : Blk X3 (n + 1) #[.slice none 0 0, .slice none 0 0, .slice none 0 0, .slice none 0 0, .slice none 0 0] 28 := by rw [← hX3e]; exact hXB2.set 2 _
    have cc4 : X3.cell? ⟨n + 1, 3, none⟩ = some (.slice none 0 0) := (hXB3.cell 3).trans rfl
    have cf4 : X3.frozen? ⟨n + 1, 3, none⟩ = false := hXB3.frozen _
    obtain ⟨X4, hX4e⟩ : ∃ W, X3.setCell ⟨n + 1, 3, none⟩ (.slice none 0 0) = W := ⟨_, rfl⟩
    have hXB4 : Blk X4 (n + 1) #[.slice none 0 0, .slice none 0 0, .slice none 0 0, .slice none 0 0, .slice none 0 0] 28 := by rw [← hX4e]; exact hXB3.set 3 _
    have cc5 : X4.cell? ⟨n + 1, 4, none⟩ = some (.slice none 0 0) := (hXB4.cell 4).trans rfl
    have cf5 : X4.frozen? ⟨n + 1, 4, none⟩ = false := hXB4.frozen _
    obtain ⟨X5, hX5e⟩ : ∃ W, X4.setCell ⟨n + 1, 4, none⟩ (.slice none 0 0) = W := ⟨_, rfl⟩
    have hXB5 : Blk X5 (n + 1) #[.slice none 0 0, .slice none 0 0, .slice none 0 0, .slice none 0 0, .slice none 0 0] 28 := by rw [← hX5e]; exact hXB4.set 4 _
    have hxf : Ex w X5 := by
      rw [← hX5e, ← hX4e, ← hX3e, ← hX2e, ← hX1e]
      exact (((((HX2.out.trans HX.out).setCell (.inr hsz) _).setCell (.inr hsz) _).setCell (.inr hsz) _).setCell (.inr hsz) _).setCell (.inr hsz) _
    have HL5 := Lib.hid hXB5; have HXf := Lib.hid hxf
    clear hC3 hXB1 hXB2 hXB3 hXB4 hXB5 hsz hxf
    go_wp2_with fail
    clear cc1 cc2 cc3 cc4 cc5 cf1 cf2 cf3 cf4 cf5 hX1e hX2e hX3e hX4e hX5e
    have z0 : X5.cell? ⟨n + 1, 0, none⟩ = some (.slice none 0 0) := (HL5.out.cell 0).trans rfl
    have z1 : X5.cell? ⟨n + 1, 1, none⟩ = some (.slice none 0 0) := (HL5.out.cell 1).trans rfl
    have z2 : X5.cell? ⟨n + 1, 2, none⟩ = some (.slice none 0 0) := (HL5.out.cell 2).trans rfl
    have z3 : X5.cell? ⟨n + 1, 3, none⟩ = some (.slice none 0 0) := (HL5.out.cell 3).trans rfl
    have z4 : X5.cell? ⟨n + 1, 4, none⟩ = some (.slice none 0 0) := (HL5.out.cell 4).trans rfl
    refine bodyPost_ret (v := .tuple #[codeV (.slice none 0 0) (.slice none 0 0) (.slice none 0 0) (.slice none 0 0) (.slice none 0 0), .int .i64 1]) ?_ rfl ?_
    · unfold codeV
      simp [results, Tryz.results14, go_sem, z0, z1, z2, z3, z4]
    rw [← HM.out]
    unfold StripR
    rw [if_neg hg]
    exact ⟨rfl, HXf.out⟩
  rw [decide_eq_true hg] at HWF
  have hgood := (good_iff c).1 hg
  have HG := Lib.hid hg; have HGood := Lib.hid hgood
  clear hg hgood
  go_upto_region 3 with (go_at_call 46; refine HWF.out.mono ?_; rintro e w3 ⟨rfl, hx⟩; have HX3 := Lib.hid hx; clear hx)
  clear x0 x1 x2 x3 x4
  obtain ⟨x0, x1, x2, x3, x4⟩ := (HF0 w3 (HX3.out.blk HB12.out id)).out
  have hpos := HGood.out.i1
  have hi2 := HGood.out.i2
  obtain ⟨iad, rfl⟩ : ∃ ad, ia = some ad := by
    cases ia with
    | none => have := Hi1.out rfl; rw [this] at hpos; simp at hpos
    | some ad => exact ⟨ad, rfl⟩
  have hXw := HX2.out.trans HX3.out
  obtain ⟨y, hy⟩ : ∃ y, c.instrs[c.instrs.length - 1]? = some y := ⟨_, List.getElem?_eq_getElem (by omega)⟩
  have hlast : lastOp c = y.op := by unfold lastOp; rw [List.getD_eq_getElem?_getD, hy]; rfl
  obtain ⟨A, hA⟩ : ∃ A, iad.add ((c.instrs.length - 1) * 3) = A := ⟨_, rfl⟩
  obtain ⟨z0, -, -⟩ := (H.out.is.ext hXw).insCells hy hA
  have e1 : IntKind.i64.wrap ((c.instrs.length : Int) - 1) = (c.instrs.length : Int) - 1 := by simp [IntKind.wrap_i64]; omega
  have e2 : (0 : Int) ≤ (c.instrs.length : Int) - 1 := by omega
  have e3 : ((c.instrs.length : Int) - 1) < c.instrs.length := by omega
  have e4 : ((c.instrs.length : Int) - 1).toNat = c.instrs.length - 1 := by omega
  have HLast := Lib.hid hlast; have HXw := Lib.hid hXw
  clear hy hlast hXw
  by_cases h53 : y.op = 53
  case pos =>
    rw [h53] at HLast z0
    clear hpos hi2
    go_upto_region 4 with fail
    clear e1 e2 e3 e4 z0 x0 x1 x2 x3 x4
    have hC3 := HX3.out.blk HBC.out id
    have hsz : w.heap.size ≤ n + 1 := by rw [Hn.out]; omega
    have cc1 : w3.cell? ⟨n + 1, 0, none⟩ = some (.slice none 0 0) := (hC3.cell 0).trans rfl
    have cf1 : w3.frozen? ⟨n + 1, 0, none⟩ = false := hC3.frozen _
    obtain ⟨X1, hX1e⟩ : ∃ W, w3.setCell ⟨n + 1, 0, none⟩ (.slice none 0 0) = W := ⟨_, rfl⟩
    have hXB1 : Blk X1 (n + 1) #[.slice none 0 0, .slice none 0 0, .slice none 0 0, .slice none 0 0, .slice none 0 0] 28 := by rw [← hX1e]; exact hC3.set 0 _
    have cc2 : X1.cell? ⟨n + 1, 1, none⟩ = some (.slice none 0 0) := (hXB1.cell 1).trans rfl
    have cf2 : X1.frozen? ⟨n + 1, 1, none⟩ = false := hXB1.frozen _
    obtain ⟨X2, hX2e⟩ : ∃ W, X1.setCell ⟨n + 1, 1, none⟩ (.slice none 0 0) = W := ⟨_, rfl⟩
    have hXB2 : Blk X2 (n + 1) #[.slice none 0 0, .slice none 0 0, .slice none 0 0, .slice none 0 0, .slice none 0 0] 28 := by rw [← hX2e]; exact hXB1.set 1 _
    have cc3 : X2.cell? ⟨n + 1, 2, none⟩ = some (.slice none 0 0) := (hXB2.cell 2).trans rfl
    have cf3 : X2.frozen? ⟨n + 1, 2, none⟩ = false := hXB2.frozen _
    obtain ⟨X3, hX3e⟩ : ∃ W, X2.setCell ⟨n + 1, 2, none⟩ (.slice none 0 0) = W := ⟨_, rfl⟩
    have hXB3 : Blk X3 (n + 1) #[.slice none 0 0, .slice none 0 0, .slice none 0 0, .slice none 0 0, .slice none 0 0] 28 := by rw [← hX3e]; exact hXB2.set 2 _
    have cc4 : X3.cell? ⟨n + 1, 3, none⟩ = some (.slice none 0 0) := (hXB3.cell 3).trans rfl
    have cf4 : X3.frozen? ⟨n + 1, 3, none⟩ = false := hXB3.frozen _
    obtain ⟨X4, hX4e⟩ : ∃ W, X3.setCell ⟨n + 1, 3, none⟩ (.slice none 0 0) = W := ⟨_, rfl⟩
    have hXB4 : Blk X4 (n + 1) #[.slice none 0 0, .slice none 0 0, .slice none 0 0, .slice none 0 0, .slice none 0 0] 28 := by rw [← hX4e]; exact hXB3.set 3 _
    have cc5 : X4.cell? ⟨n + 1, 4, none⟩ = some (.slice none 0 0) := (hXB4.cell 4).trans rfl
    have cf5 : X4.frozen? ⟨n + 1, 4, none⟩ = false := hXB4.frozen _
    obtain ⟨X5, hX5e⟩ : ∃ W, X4.setCell ⟨n + 1, 4, none⟩ (.slice none 0 0) = W := ⟨_, rfl⟩
    have hXB5 : Blk X5 (n + 1) #[.slice none 0 0, .slice none 0 0, .slice none 0 0, .slice none 0 0, .slice none 0 0] 28 := by rw [← hX5e]; exact hXB4.set 4 _
    have hxf : Ex w X5 := by
      rw [← hX5e, ← hX4e, ← hX3e, ← hX2e, ← hX1e]
      exact (((((HXw.out).setCell (.inr hsz) _).setCell (.inr hsz) _).setCell (.inr hsz) _).setCell (.inr hsz) _).setCell (.inr hsz) _
    have HL5 := Lib.hid hXB5; have HXf := Lib.hid hxf
    clear hC3 hXB1 hXB2 hXB3 hXB4 hXB5 hsz hxf
    go_wp2_with fail
    clear cc1 cc2 cc3 cc4 cc5 cf1 cf2 cf3 cf4 cf5 hX1e hX2e hX3e hX4e hX5e
    have z0 : X5.cell? ⟨n + 1, 0, none⟩ = some (.slice none 0 0) := (HL5.out.cell 0).trans rfl
    have z1 : X5.cell? ⟨n + 1, 1, none⟩ = some (.slice none 0 0) := (HL5.out.cell 1).trans rfl
    have z2 : X5.cell? ⟨n + 1, 2, none⟩ = some (.slice none 0 0) := (HL5.out.cell 2).trans rfl
    have z3 : X5.cell? ⟨n + 1, 3, none⟩ = some (.slice none 0 0) := (HL5.out.cell 3).trans rfl
    have z4 : X5.cell? ⟨n + 1, 4, none⟩ = some (.slice none 0 0) := (HL5.out.cell 4).trans rfl
    refine bodyPost_ret (v := .tuple #[codeV (.slice none 0 0) (.slice none 0 0) (.slice none 0 0) (.slice none 0 0) (.slice none 0 0), .int .i64 5]) ?_ rfl ?_
    · unfold codeV
      simp [results, Tryz.results14, go_sem, z0, z1, z2, z3, z4]
    rw [← HM.out]
    unfold StripR
    rw [if_pos HG.out, if_pos HLast.out]
    exact ⟨rfl, HXf.out⟩
  clear hpos hi2
  have H53 := Lib.hid h53
  have h53b : (y.op == 53) = false := by simpa using h53
  go_upto_region 5 with fail
  try rw [h53b]
  clear h53 h53b e1 e2 e3 e4 z0 x0 x1 x2 x3 x4 hA
  obtain ⟨bt, hbt⟩ : ∃ bt, w3.heap.size = bt := ⟨_, rfl⟩
  obtain ⟨W4, hW4⟩ : ∃ W4, w3.alloc (.cells #[.slice none 0 0] 47) = W4 := ⟨_, rfl⟩
  have hs4 : W4.heap.size = bt + 1 := by rw [← hW4, World.size_alloc, hbt]
  have hX4 : Ex w3 W4 := by rw [← hW4]; exact (Keeps.refl _ _).alloc _
  have hT4 : Blk W4 bt #[.slice none 0 0] 47 := by rw [← hW4, ← hbt]; exact Blk.new w3 _ _
  obtain ⟨W5, hW5⟩ : ∃ W5, W4.alloc (.cells #[.slice none 0 0, .slice none 0 0, .slice none 0 0, .slice none 0 0, .slice none 0 0] 28) = W5 := ⟨_, rfl⟩
  have hX5 : Ex W4 W5 := by rw [← hW5]; exact (Keeps.refl _ _).alloc _
  have hO5 : Blk W5 (bt + 1) #[.slice none 0 0, .slice none 0 0, .slice none 0 0, .slice none 0 0, .slice none 0 0] 28 := by rw [← hW5, ← hs4]; exact Blk.new W4 _ _
  have hnt : n + 2 ≤ bt := by have := HX3.out.size; have := Hs2.out; omega
  have hX35 : Ex W2 W5 := HX3.out.trans (hX4.trans hX5)
  have HS5 : Hid (StS w n (n + 1) bt (bt + 1) V1 (.slice none 0 0) (.slice none 0 0) (.slice none 0 0) (.slice none 0 0) [] [] [] [] W5) := Lib.hid
    ⟨HX2.out.trans hX35, hX35.blk HB12.out id, hX35.blk HBC.out id, hX5.blk hT4 id, hO5, World.ownsRow_nil _ _ _ _, World.ownsRow_nil _ _ _ _, (fun x hx => by cases hx), World.ownsRow_nil _ _ _ _, World.ownsRow_nil _ _ _ _⟩
  have HW4 := Lib.hid hW4; have HW5 := Lib.hid hW5; have Hbt := Lib.hid hbt; have Hs4 := Lib.hid hs4
  clear hW4 hW5 hbt hs4 hX4 hT4 hX5 hO5 hX35
  go_upto_region 7 with fail
  rw [HW4.out]
  try rw [Hbt.out]
  rw [HW5.out]
  try rw [Hs4.out]
  obtain ⟨x0, x1, x2, x3, x4⟩ := (HF0 W5 HS5.out.k1).out
  go_wp2_with fail
  clear x0 x1 x2 x3 x4
  go_loopw [33] (fun s V => ∃ (k : Nat) (tv iv : Value), k ≤ c.instrs.length ∧ s = .int .i64 k ∧ Hid (StS w n (n + 1) bt (bt + 1) V1 tv (.slice none 0 0) (.slice none 0 0) iv ((toL c).take k) [] [] ((c.instrs.take k).filter notMark) V)) (fun s V => c.instrs.length - (intOf s).toNat)
  case atStart => exact ⟨0, _, _, Nat.zero_le _, rfl, HS5⟩
  case round =>
    obtain ⟨k, tv1, iv1, hk, rfl, HS⟩ := hrel
    by_cases hlt : k < c.instrs.length
    case pos =>
      obtain ⟨x, hx⟩ : ∃ x, c.instrs[k]? = some x := ⟨_, List.getElem?_eq_getElem hlt⟩
      obtain ⟨A, hA⟩ : ∃ A, iad.add (k * 3) = A := ⟨_, rfl⟩
      obtain ⟨z0, z1, z2⟩ := (H.out.is.ext HS.out.ex).insCells hx hA
      obtain ⟨W6, hW6⟩ : ∃ W6, wr.alloc (.cells #[.int .i64 x.op, .int .i64 x.a, .int .i64 x.b] 82) = W6 := ⟨_, rfl⟩
      obtain ⟨b6, hb6⟩ : ∃ b6, wr.heap.size = b6 := ⟨_, rfl⟩
      have hX6 : Ex wr W6 := by rw [← hW6]; exact (Keeps.refl _ wr).alloc _
      have hB6 : Blk W6 b6 #[.int .i64 x.op, .int .i64 x.a, .int .i64 x.b] 82 := by rw [← hW6, ← hb6]; exact Blk.new wr _ _
      have hs6 : W6.heap.size = b6 + 1 := by rw [← hW6, World.size_alloc, hb6]
      have hS6 := HS.out.ext hX6
      obtain ⟨ta1, tc1, rfl⟩ := own_slice hS6.rTo
      obtain ⟨ia1, ic1, rfl⟩ := own_slice hS6.rIs
      have hln : ((toL c).take k).length = k := by rw [List.length_take, toL_len]; omega
      have hfl : ((c.instrs.take k).filter notMark).length ≤ k := Nat.le_trans (List.length_filter_le _ _) (by rw [List.length_take]; omega)
      obtain ⟨fl, hfe⟩ : ∃ fl, ((c.instrs.take k).filter notMark).length = fl := ⟨_, rfl⟩
      obtain ⟨kl, hke⟩ : ∃ kl, ((toL c).take k).length = kl := ⟨_, rfl⟩
      obtain ⟨W7, hW7⟩ : ∃ W7, W6.alloc (.cells #[.int .i64 (fl : Nat)] 3) = W7 := ⟨_, rfl⟩
      have hX7 : Ex W6 W7 := by rw [← hW7]; exact (Keeps.refl _ _).alloc _
      have hS7 := hS6.ext hX7
      have hB7 := hX7.blk hB6 id
      have hnew7 : ∀ (j : Nat) u, ([.int .i64 (fl : Nat)] : List Value)[j]? = some u → W7.cell? ((⟨b6 + 1, 0, none⟩ : Addr).add j) = some u := by
        rw [← hW7, ← hs6]; exact cells_new W6 _ _
      have t6 : W6.cell? ⟨bt, 0, none⟩ = some (.slice ta1 kl tc1) := by rw [← hke]; exact (hS6.kt.cell 0).trans rfl
      have o6 : W6.cell? ⟨bt + 1, 4, none⟩ = some (.slice ia1 fl ic1) := by rw [← hfe]; exact (hS6.ko.cell 4).trans rfl
      rw [hke, hfe] at hS7
      have HW6 := Lib.hid hW6; have Hb6 := Lib.hid hb6; have Hs6 := Lib.hid hs6; have HW7 := Lib.hid hW7; have HS7 := Lib.hid hS7; have HB7 := Lib.hid hB7; have HNew7 := Lib.hid hnew7; have Hfe := Lib.hid hfe; have Hke := Lib.hid hke; have Hx := Lib.hid hx; have Hln := Lib.hid hln; have Hfl := Lib.hid hfl
      obtain ⟨x0, x1, x2, x3, x4⟩ := (HF0 wr HS.out.k1).out
      clear hW6 hb6 hs6 hW7 hX6 hB6 hS6 hX7 hS7 hB7 hnew7 hfe hke hx hln hfl
      go_upto_region 10 with fail
      rw [HW6.out]
      try rw [Hb6.out]
      clear x0 x1 x2 x3 x4 z0 z1 z2
      go_wp2_with (at_builtin; refine (fun h => h trivial : (True → _) → _) ?_)
      intro _
      rw [HW7.out]
      try rw [Hs6.out]
      obtain ⟨i0, hi, hz0, hz1, hz2⟩ := info_split info_clI
      have hrT := HS7.out.rTo
      rw [Hke.out] at hrT
      refine wpList_append_fresh rfl _ _ 47 rfl w.heap.size 3 i0 _ 1 8 Tryz.underlying47 hi hz0 hz1 hz2 rfl (by decide) (.slice ta1 kl tc1) kl _ rfl hrT ⟨b6 + 1, 0, none⟩ 1 1 [.int .i64 (fl : Nat)] rfl rfl HNew7.out (by intro u hu; obtain rfl : u = _ := (by simpa using hu); rfl) (by have := Hke.out; have := Hln.out; unfold maxLen; omega) (by have := Hke.out; have := Hln.out; omega) HS7.out.ex.size ?_
      intro v8 w8 g1 g2 _ _
      obtain ⟨ta2, tc2, rfl⟩ := own_slice g1
      obtain ⟨hT8, hS9⟩ := HS7.out.growTo (tv' := .slice ta2 (kl + 1) tc2) (m := (fl : Nat)) g2 (by rw [Hke.out]; exact g1) (by rw [Hn.out]; omega) rfl
      have hB8 := grow_blk HS7.out.rTo g2 HB7.out (by decide)
      have hB9 : Blk (w8.setCell ⟨bt, 0, none⟩ (.slice ta2 (kl + 1) tc2)) b6 #[.int .i64 x.op, .int .i64 x.a, .int .i64 x.b] 82 := hB8.far (hB8.ne hT8 (by decide)) _
      have t8 : w8.cell? ⟨bt, 0, none⟩ = some (.slice ta1 kl tc1) := (hT8.cell 0).trans rfl
      have f8 : w8.frozen? ⟨bt, 0, none⟩ = false := hT8.frozen 0
      obtain ⟨W9, hW9⟩ : ∃ W9, w8.setCell ⟨bt, 0, none⟩ (.slice ta2 (kl + 1) tc2) = W9 := ⟨_, rfl⟩
      rw [hW9] at hS9 hB9
      have hto : (toL c).take k ++ [((fl : Nat) : Int)] = (toL c).take (k + 1) := by
        rw [toL_take c hlt]; unfold toN; rw [Hfe.out]
      rw [hto] at hS9
      have b9 : W9.cell? ⟨b6, 0, none⟩ = some (.int .i64 x.op) := (hB9.cell 0).trans rfl
      have HS9 := Lib.hid hS9; have HB9 := Lib.hid hB9; have HW9 := Lib.hid hW9; have HT8 := Lib.hid hT8
      clear g1 g2 hT8 hS9 hB8 hB9 hW9 hto t6 o6 hrT hi
      go_upto_region 11 with fail
      rw [HW9.out]
      clear t8 f8
      by_cases hm : x.op = 53
      case pos =>
        have hfl : (c.instrs.take (k + 1)).filter notMark = (c.instrs.take k).filter notMark := by
          rw [filt_take c Hx.out]; simp [notMark, hm]
        have HS10 := HS9
        rw [← hfl] at HS10
        clear hfl
        go_wp2_with fail
        go_roundw
        case rel => exact ⟨k + 1, _, _, by omega, by go_num, HS10⟩
        case measure => simp [intOf]; omega
      case neg =>
        have hmb : (x.op == 53) = false := by simpa using hm
        have hfl : (c.instrs.take (k + 1)).filter notMark = (c.instrs.take k).filter notMark ++ [x] := by
          rw [filt_take c Hx.out]; simp [notMark, hm]
        obtain ⟨W10, hW10⟩ : ∃ W10, W9.alloc (.cells #[.int .i64 x.op, .int .i64 x.a, .int .i64 x.b] 82) = W10 := ⟨_, rfl⟩
        obtain ⟨b10, hb10⟩ : ∃ b10, W9.heap.size = b10 := ⟨_, rfl⟩
        have hX10 : Ex W9 W10 := by rw [← hW10]; exact (Keeps.refl _ _).alloc _
        have hS10 := HS9.out.ext hX10
        have hnew10 : ∀ (j : Nat) u, (encN x)[j]? = some u → W10.cell? ((⟨b10, 0, none⟩ : Addr).add j) = some u := by
          rw [← hW10, ← hb10]; exact cells_new W9 _ _
        have o9 : W9.cell? ⟨bt + 1, 4, none⟩ = some (.slice ia1 fl ic1) := (HS9.out.ko.cell 4).trans rfl
        have b91 : W9.cell? ⟨b6, 1, none⟩ = some (.int .i64 x.a) := (HB9.out.cell 1).trans rfl
        have b92 : W9.cell? ⟨b6, 2, none⟩ = some (.int .i64 x.b) := (HB9.out.cell 2).trans rfl
        have HW10 := Lib.hid hW10; have Hb10 := Lib.hid hb10; have HS10 := Lib.hid hS10; have HNew10 := Lib.hid hnew10; have Hflt := Lib.hid hfl
        clear hW10 hb10 hX10 hS10 hnew10 hfl
        go_wp2_with (at_builtin; refine (fun h => h trivial : (True → _) → _) ?_)
        intro _
        rw [HW10.out]
        try rw [Hb10.out]
        obtain ⟨i0, hi, hz0, hz1, hz2⟩ := info_split info_stN
        have hrI := HS10.out.rIs
        rw [Hfe.out] at hrI
        refine wpList_append_fresh rfl _ _ 26 rfl w.heap.size 82 i0 _ 3 24 Tryz.underlying26 hi hz0 hz1 hz2 rfl (by decide) (.slice ia1 fl ic1) fl _ rfl hrI ⟨b10, 0, none⟩ 1 1 (encN x) rfl rfl HNew10.out (by intro u hu; simp only [encN, List.mem_cons, List.not_mem_nil, or_false] at hu; rcases hu with rfl | rfl | rfl <;> rfl) (by have := Hfl.out; have := Hfe.out; unfold maxLen; omega) (by have := Hfl.out; have := Hfe.out; omega) HS10.out.ex.size ?_
        intro v11 w11 g1 g2 _ _
        obtain ⟨ia2, ic2, rfl⟩ := own_slice g1
        obtain ⟨hO11, hS12⟩ := HS10.out.growI (iv' := .slice ia2 (fl + 1) ic2) (m := x) g2 (by rw [Hfe.out]; exact g1) (by rw [Hn.out]; omega) (by omega) (by omega)
        have o11 : w11.cell? ⟨bt + 1, 4, none⟩ = some (.slice ia1 fl ic1) := (hO11.cell 4).trans rfl
        have f11 : w11.frozen? ⟨bt + 1, 4, none⟩ = false := hO11.frozen 4
        obtain ⟨W12, hW12⟩ : ∃ W12, w11.setCell ⟨bt + 1, 4, none⟩ (.slice ia2 (fl + 1) ic2) = W12 := ⟨_, rfl⟩
        rw [hW12] at hS12
        rw [← Hflt.out] at hS12
        have HS12 := Lib.hid hS12; have HW12 := Lib.hid hW12
        clear g1 g2 hO11 hS12 hW12 hrI hi o9 b91 b92 b9 HNew10 HW10
        go_upto_region 13 with fail
        rw [HW12.out]
        clear o11 f11
        go_wp2_with fail
        go_roundw
        case rel => exact ⟨k + 1, _, _, by omega, by go_num, HS12⟩
        case measure => simp [intOf]; omega
    case neg =>
      have : k = c.instrs.length := by omega
      subst this
      rw [List.take_length, show (toL c).take c.instrs.length = toL c by rw [← toL_len]; exact List.take_length] at HS
      obtain ⟨ta1, tc1, rfl⟩ := own_slice HS.out.rTo
      obtain ⟨ia1, ic1, rfl⟩ := own_slice HS.out.rIs
      have hmf : ∀ (fn : Fn) (first cap : Array Value) (w : World), (Instr.makeFunc fn first cap).run Tryz.prog w = .ok (.func fn first cap) w := fun _ _ _ _ => rfl
      obtain ⟨m0, hm0⟩ : ∃ m, (c.instrs.filter notMark).length = m := ⟨_, rfl⟩
      obtain ⟨tl, htl⟩ : ∃ m, (toL c).length = m := ⟨_, rfl⟩
      have hS := HS.out
      rw [hm0, htl] at hS
      have hml : m0 ≤ c.instrs.length := by rw [← hm0]; exact List.length_filter_le _ _
      have o1 : wr.cell? ⟨bt + 1, 4, none⟩ = some (.slice ia1 m0 ic1) := (hS.ko.cell 4).trans rfl
      have hS0 := hS
      rw [← isk_zero c (c.instrs.filter notMark)] at hS0
      have HS0 := Lib.hid hS0; have Hm0 := Lib.hid hm0; have Htl := Lib.hid htl
      clear hS hS0 hm0 htl HS hk hlt
      go_wp2_with fail
      clear o1 hmf
      go_loopw [57] (fun s V => ∃ k : Nat, k ≤ m0 ∧ s = .int .i64 k ∧ Hid (StS w n (n + 1) bt (bt + 1) V1 (.slice ta1 tl tc1) (.slice none 0 0) (.slice none 0 0) (.slice ia1 m0 ic1) (toL c) [] [] (isk c (c.instrs.filter notMark) k) V)) (fun s V => m0 - (intOf s).toNat)
      case atStart => exact ⟨0, Nat.zero_le _, rfl, HS0⟩
      case round =>
        obtain ⟨k, hk, rfl, HS⟩ := hrel
        by_cases hlt : k < m0
        case pos =>
          obtain ⟨x, hx⟩ : ∃ x, (c.instrs.filter notMark)[k]? = some x := ⟨_, List.getElem?_eq_getElem (by rw [Hm0.out]; exact hlt)⟩
          have hxk := isk_at c _ hx
          obtain ⟨g, rfl⟩ : ∃ g, ia1 = some ⟨g, 0, none⟩ := by
            rcases HS.out.rIs.2 with ⟨h1, h2⟩ | ⟨g, cap, cur, h1, -⟩
            · rw [isk_len c _ k (by rw [Hm0.out]; exact hk), Hm0.out] at h2; omega
            · injection h1 with h1; exact ⟨g, h1⟩
          have hA : (⟨g, 0, none⟩ : Addr).add (k * 3) = ⟨g, k * 3, none⟩ := by unfold Addr.add; split <;> simp_all
          have hrd := own_rd encN_len HS.out.rIs
          obtain ⟨z0, z1, z2⟩ := hrd.insCells hxk hA
          have hxm : x ∈ c.instrs := (List.mem_filter.1 (List.mem_of_getElem? hx)).1
          obtain ⟨W6, hW6⟩ : ∃ W6, wr.alloc (.cells #[.int .i64 x.op, .int .i64 x.a, .int .i64 x.b] 82) = W6 := ⟨_, rfl⟩
          obtain ⟨b6, hb6⟩ : ∃ b6, wr.heap.size = b6 := ⟨_, rfl⟩
          have hX6 : Ex wr W6 := by rw [← hW6]; exact (Keeps.refl _ wr).alloc _
          have hB6 : Blk W6 b6 #[.int .i64 x.op, .int .i64 x.a, .int .i64 x.b] 82 := by rw [← hW6, ← hb6]; exact Blk.new wr _ _
          have hS6 := HS.out.ext hX6
          have y0 : W6.cell? ⟨b6, 0, none⟩ = some (.int .i64 x.op) := (hB6.cell 0).trans rfl
          have HW6 := Lib.hid hW6; have Hb6 := Lib.hid hb6; have HS6 := Lib.hid hS6; have HB6 := Lib.hid hB6; have Hx := Lib.hid hx; have Hxk := Lib.hid hxk; have Hxm := Lib.hid hxm
          clear hW6 hb6 hX6 hB6 hS6 hx hxk hxm hrd
          go_upto_region 18 with fail
          rw [HW6.out]
          try rw [Hb6.out]
          clear z0 z1 z2
          by_cases hj : x.op = 42 ∨ x.op = 43
          case pos =>
            have Hj := Lib.hid hj
            rcases hj with hop | hop
            case inl =>
              go_upto_region 19 with fail
              clear y0 hop
              obtain ⟨W7, hW7⟩ : ∃ W7, W6.drew = W7 := ⟨_, rfl⟩
              have hX7 : Ex W6 W7 := by rw [← hW7]; exact (Keeps.refl _ _).drew
              have hS7 := HS6.out.ext hX7
              have hB7 := hX7.blk HB6.out id
              have hgj := good_jump HGood.out Hxm.out Hj.out
              have HCall := Lib.hid (moved_any (c := c) (n := x.a) hS7.kt (by have := own_rd encI_len hS7.rTo; exact this) li hgj.2)
              have HS : Hid (W7.cell? ⟨bt + 1, 4, none⟩ = some (.slice (some ⟨g, 0, none⟩) m0 ic1) ∧ W7.cell? ⟨b6, 1, none⟩ = some (.int .i64 x.a)) := Lib.hid ⟨(hS7.ko.cell 4).trans rfl, (hB7.cell 1).trans rfl⟩
              have hS8 := hS7.setI Hxk.out (movedC c x.a)
              have hmx : { x with a := movedC c x.a } = moveI c x := by unfold moveI; rw [if_pos Hj.out]
              rw [hmx, ← isk_succ c _ Hx.out] at hS8
              obtain ⟨W8, hW8⟩ : ∃ W8, W7.setCell ⟨g, k * 3 + 1, none⟩ (.int .i64 (movedC c x.a)) = W8 := ⟨_, rfl⟩
              rw [hW8] at hS8
              have z1 : W7.cell? ⟨g, k * 3 + 1, none⟩ = some (.int .i64 x.a) := by
                have := ((own_rd encN_len hS7.rIs).insCells Hxk.out hA).2.1
                exact this
              have f1 : W7.frozen? ⟨g, k * 3 + 1, none⟩ = false := by
                rcases hS7.rIs.2 with ⟨h1, _⟩ | ⟨g', cap, cur, h1, _, h3, _⟩
                · cases h1
                · injection h1 with h1; injection h1 with h1; injection h1 with h1; subst h1
                  exact Blk.frozen (b := g) h3 _
              have HS8 := Lib.hid hS8; have HW8 := Lib.hid hW8
              clear hX7 hS7 hB7 hgj hS8 hmx hW8
              refine region_U_plain (n := 9) (fun V => V.cell? ⟨bt + 1, 4, none⟩ = some (.slice (some ⟨g, 0, none⟩) m0 ic1) ∧ V.cell? ⟨b6, 1, none⟩ = some (.int .i64 x.a)) 9 (by kernel_rfl) ?_
              rw [hW7]
              clear hW7
              refine anyU_quiet (a2 := ?a0) 0 rfl rfl rfl (by kernel_rfl) (by kernel_rfl) (by kernel_rfl) (by kernel_rfl) (by kernel_rfl) (by kernel_rfl) (fun _ _ _ _ h => h) HS.out ?h0 ?k0
              case h0 => intro W hW K hK; obtain ⟨q0, q1⟩ := hW; go_simp; exact hK
              refine anyU_quiet (a2 := ?a1) 1 rfl rfl rfl (by kernel_rfl) (by kernel_rfl) (by kernel_rfl) (by kernel_rfl) (by kernel_rfl) (by kernel_rfl) (fun _ _ _ _ h => h) HS.out ?h1 ?k1
              case h1 => intro W hW K hK; obtain ⟨q0, q1⟩ := hW; go_simp; exact hK
              refine anyU_quiet (a2 := ?a2) 2 rfl rfl rfl (by kernel_rfl) (by kernel_rfl) (by kernel_rfl) (by kernel_rfl) (by kernel_rfl) (by kernel_rfl) (fun _ _ _ _ h => h) HS.out ?h2 ?k2
              case h2 => intro W hW K hK; obtain ⟨q0, q1⟩ := hW; go_simp; exact hK
              refine anyU_quiet (a2 := ?a3) 3 rfl rfl rfl (by kernel_rfl) (by kernel_rfl) (by kernel_rfl) (by kernel_rfl) (by kernel_rfl) (by kernel_rfl) (fun _ _ _ _ h => h) HS.out ?h3 ?k3
              case h3 => intro W hW K hK; obtain ⟨q0, q1⟩ := hW; go_simp; exact hK
              refine anyU_quiet (a2 := ?a4) 4 rfl rfl rfl (by kernel_rfl) (by kernel_rfl) (by kernel_rfl) (by kernel_rfl) (by kernel_rfl) (by kernel_rfl) (fun _ _ _ _ h => h) HS.out ?h4 ?k4
              case h4 => intro W hW K hK; obtain ⟨q0, q1⟩ := hW; go_simp; exact hK
              refine anyU_quiet (a2 := ?a5) 5 rfl rfl rfl (by kernel_rfl) (by kernel_rfl) (by kernel_rfl) (by kernel_rfl) (by kernel_rfl) (by kernel_rfl) (fun _ _ _ _ h => h) HS.out ?h5 ?k5
              case h5 => intro W hW K hK; obtain ⟨q0, q1⟩ := hW; go_simp; exact hK
              refine anyU_only 6 rfl (by kernel_rfl) ?_
              gi_wp2_with fail
              refine (callsIn_WF HCall.out).mono ?_
              rintro e w1 ⟨rfl, rfl⟩
              gi_wp2
              refine And.intro (.inr HS.out) ?_
              refine anyU_only 7 rfl (by kernel_rfl) ?_
              gi_wp2
              refine And.intro (.inr HS.out) ?_
              refine anyU_only 8 rfl (by kernel_rfl) ?_
              gi_wp2
              refine And.intro (.inr HS.out) ?_
              refine anyU_only 9 rfl (by kernel_rfl) ?_
              gi_wp2
              rw [HW8.out]
              refine And.intro (.inl (by kernel_rfl)) ?_
              refine anyU_done (by kernel_rfl) ?_ _
              clear z1 f1 hA
              go_wp2_with fail
              go_roundw
              case rel => exact ⟨k + 1, by omega, by go_num, HS8⟩
              case measure => simp [intOf]; omega
            case inr =>
              go_upto_region 19 with fail
              clear y0 hop
              obtain ⟨W7, hW7⟩ : ∃ W7, W6.drew = W7 := ⟨_, rfl⟩
              have hX7 : Ex W6 W7 := by rw [← hW7]; exact (Keeps.refl _ _).drew
              have hS7 := HS6.out.ext hX7
              have hB7 := hX7.blk HB6.out id
              have hgj := good_jump HGood.out Hxm.out Hj.out
              have HCall := Lib.hid (moved_any (c := c) (n := x.a) hS7.kt (by have := own_rd encI_len hS7.rTo; exact this) li hgj.2)
              have HS : Hid (W7.cell? ⟨bt + 1, 4, none⟩ = some (.slice (some ⟨g, 0, none⟩) m0 ic1) ∧ W7.cell? ⟨b6, 1, none⟩ = some (.int .i64 x.a)) := Lib.hid ⟨(hS7.ko.cell 4).trans rfl, (hB7.cell 1).trans rfl⟩
              have hS8 := hS7.setI Hxk.out (movedC c x.a)
              have hmx : { x with a := movedC c x.a } = moveI c x := by unfold moveI; rw [if_pos Hj.out]
              rw [hmx, ← isk_succ c _ Hx.out] at hS8
              obtain ⟨W8, hW8⟩ : ∃ W8, W7.setCell ⟨g, k * 3 + 1, none⟩ (.int .i64 (movedC c x.a)) = W8 := ⟨_, rfl⟩
              rw [hW8] at hS8
              have z1 : W7.cell? ⟨g, k * 3 + 1, none⟩ = some (.int .i64 x.a) := by
                have := ((own_rd encN_len hS7.rIs).insCells Hxk.out hA).2.1
                exact this
              have f1 : W7.frozen? ⟨g, k * 3 + 1, none⟩ = false := by
                rcases hS7.rIs.2 with ⟨h1, _⟩ | ⟨g', cap, cur, h1, _, h3, _⟩
                · cases h1
                · injection h1 with h1; injection h1 with h1; injection h1 with h1; subst h1
                  exact Blk.frozen (b := g) h3 _
              have HS8 := Lib.hid hS8; have HW8 := Lib.hid hW8
              clear hX7 hS7 hB7 hgj hS8 hmx hW8
              refine region_U_plain (n := 9) (fun V => V.cell? ⟨bt + 1, 4, none⟩ = some (.slice (some ⟨g, 0, none⟩) m0 ic1) ∧ V.cell? ⟨b6, 1, none⟩ = some (.int .i64 x.a)) 9 (by kernel_rfl) ?_
              rw [hW7]
              clear hW7
              refine anyU_quiet (a2 := ?au2_0) 0 rfl rfl rfl (by kernel_rfl) (by kernel_rfl) (by kernel_rfl) (by kernel_rfl) (by kernel_rfl) (by kernel_rfl) (fun _ _ _ _ h => h) HS.out ?hu2_0 ?ku2_0
              case hu2_0 => intro W hW K hK; obtain ⟨q0, q1⟩ := hW; go_simp; exact hK
              refine anyU_quiet (a2 := ?au2_1) 1 rfl rfl rfl (by kernel_rfl) (by kernel_rfl) (by kernel_rfl) (by kernel_rfl) (by kernel_rfl) (by kernel_rfl) (fun _ _ _ _ h => h) HS.out ?hu2_1 ?ku2_1
              case hu2_1 => intro W hW K hK; obtain ⟨q0, q1⟩ := hW; go_simp; exact hK
              refine anyU_quiet (a2 := ?au2_2) 2 rfl rfl rfl (by kernel_rfl) (by kernel_rfl) (by kernel_rfl) (by kernel_rfl) (by kernel_rfl) (by kernel_rfl) (fun _ _ _ _ h => h) HS.out ?hu2_2 ?ku2_2
              case hu2_2 => intro W hW K hK; obtain ⟨q0, q1⟩ := hW; go_simp; exact hK
              refine anyU_quiet (a2 := ?au2_3) 3 rfl rfl rfl (by kernel_rfl) (by kernel_rfl) (by kernel_rfl) (by kernel_rfl) (by kernel_rfl) (by kernel_rfl) (fun _ _ _ _ h => h) HS.out ?hu2_3 ?ku2_3
              case hu2_3 => intro W hW K hK; obtain ⟨q0, q1⟩ := hW; go_simp; exact hK
              refine anyU_quiet (a2 := ?au2_4) 4 rfl rfl rfl (by kernel_rfl) (by kernel_rfl) (by kernel_rfl) (by kernel_rfl) (by kernel_rfl) (by kernel_rfl) (fun _ _ _ _ h => h) HS.out ?hu2_4 ?ku2_4
              case hu2_4 => intro W hW K hK; obtain ⟨q0, q1⟩ := hW; go_simp; exact hK
              refine anyU_quiet (a2 := ?au2_5) 5 rfl rfl rfl (by kernel_rfl) (by kernel_rfl) (by kernel_rfl) (by kernel_rfl) (by kernel_rfl) (by kernel_rfl) (fun _ _ _ _ h => h) HS.out ?hu2_5 ?ku2_5
              case hu2_5 => intro W hW K hK; obtain ⟨q0, q1⟩ := hW; go_simp; exact hK
              refine anyU_only 6 rfl (by kernel_rfl) ?_
              gi_wp2_with fail
              refine (callsIn_WF HCall.out).mono ?_
              rintro e w1 ⟨rfl, rfl⟩
              gi_wp2
              refine And.intro (.inr HS.out) ?_
              refine anyU_only 7 rfl (by kernel_rfl) ?_
              gi_wp2
              refine And.intro (.inr HS.out) ?_
              refine anyU_only 8 rfl (by kernel_rfl) ?_
              gi_wp2
              refine And.intro (.inr HS.out) ?_
              refine anyU_only 9 rfl (by kernel_rfl) ?_
              gi_wp2
              rw [HW8.out]
              refine And.intro (.inl (by kernel_rfl)) ?_
              refine anyU_done (by kernel_rfl) ?_ _
              clear z1 f1 hA
              go_wp2_with fail
              go_roundw
              case rel => exact ⟨k + 1, by omega, by go_num, HS8⟩
              case measure => simp [intOf]; omega
          case neg =>
            have hmx : moveI c x = x := by unfold moveI; rw [if_neg hj]
            have hn1 : (x.op == 42) = false := by simp only [beq_eq_false_iff_ne]; exact fun h => hj (.inl h)
            have hn2 : (x.op == 43) = false := by simp only [beq_eq_false_iff_ne]; exact fun h => hj (.inr h)
            have hq1 : ¬ x.op = 42 := fun h => hj (.inl h)
            have hq2 : ¬ x.op = 43 := fun h => hj (.inr h)
            have hS7 := HS6.out
            rw [← isk_same c _ Hx.out hmx] at hS7
            have HS7 := Lib.hid hS7
            clear hS7 hmx hj
            go_wp2_with fail
            go_roundw
            case rel => exact ⟨k + 1, by omega, by go_num, HS7⟩
            case measure => simp [intOf]; omega
        case neg =>
          have : k = m0 := by omega
          subst this
          have hS := HS.out
          rw [← Hm0.out, isk_full, Hm0.out] at hS
          have hdl : (c.descs.take 0).map (stripD c) = ([] : List DeV).map DeV.d := by simp
          have HS := Lib.hid hS
          obtain ⟨x0, x1, x2, x3, x4⟩ := (HF0 wr hS.k1).out
          clear hS hk hlt
          go_wp2_with fail
          clear x0 x1 x2 x3 x4
          go_loopw [83] (fun s V => ∃ (k2 : Nat) (dv2 : Value) (ds : List DeV), k2 ≤ xs.length ∧ s = .int .i64 k2 ∧ Hid (ds.map DeV.d = (c.descs.take k2).map (stripD c)) ∧ Hid (StS w n (n + 1) bt (bt + 1) V1 (.slice ta1 tl tc1) dv2 (.slice none 0 0) (.slice ia1 k ic1) (toL c) ds [] (stripI c) V)) (fun s V => xs.length - (intOf s).toNat)
          case atStart => exact ⟨0, _, [], Nat.zero_le _, rfl, Lib.hid hdl.symm, HS⟩
          clear hdl HS
          case round =>
            obtain ⟨k2, dv2, ds, hk2, rfl, Hds, HS⟩ := hrel
            obtain ⟨x0, x1, x2, x3, x4⟩ := (HF0 wr HS.out.k1).out
            by_cases hlt : k2 < xs.length
            case pos =>
              obtain ⟨ad, rfl⟩ : ∃ ad, da = some ad := by
                cases da with
                | none => have := Hd1.out rfl; subst this; simp at hlt
                | some ad => exact ⟨ad, rfl⟩
              obtain ⟨x, hx⟩ : ∃ x, xs[k2]? = some x := ⟨_, List.getElem?_eq_getElem hlt⟩
              have hxd : c.descs[k2]? = some x.d := by rw [← H.out.eq, List.getElem?_map, hx]; rfl
              have hD := (H.out.de x (List.mem_of_getElem? hx)).ext HS.out.ex
              obtain ⟨A, hA⟩ : ∃ A, ad.add (k2 * 11) = A := ⟨_, rfl⟩
              obtain ⟨e0, e1, e2, e3, e4, e5, e6, e7, e8, e9, e10⟩ := (H.out.ds.ext HS.out.ex).deCells hx hA
              obtain ⟨d, cv, uv, vv⟩ := x
              obtain ⟨ca, cc, ec, -⟩ := id hD.chain
              obtain ⟨ua, uc, eu, -⟩ := id hD.up
              obtain ⟨va, vc, ev, -⟩ := id hD.virts
              simp only at ec eu ev hxd e0 e1 e2 e3 e4 e5 e6 e7 e8 e9 e10
              subst ec; subst eu; subst ev
              obtain ⟨W6, hW6⟩ : ∃ W6, wr.alloc (.cells #[.int .i64 d.around, .slice ca d.chain.length cc, .slice ua d.up.length uc, .int .i64 d.offset, .int .i64 d.cells, .slice va d.virts.length vc, .int .i64 d.init, .int .i64 d.enter, .int .i64 d.do_, .int .i64 d.exit, .int .i64 d.stack] 50) = W6 := ⟨_, rfl⟩
              obtain ⟨b6, hb6⟩ : ∃ b6, wr.heap.size = b6 := ⟨_, rfl⟩
              have hX6 : Ex wr W6 := by rw [← hW6]; exact (Keeps.refl _ wr).alloc _
              have hB6 : Blk W6 b6 #[.int .i64 d.around, .slice ca d.chain.length cc, .slice ua d.up.length uc, .int .i64 d.offset, .int .i64 d.cells, .slice va d.virts.length vc, .int .i64 d.init, .int .i64 d.enter, .int .i64 d.do_, .int .i64 d.exit, .int .i64 d.stack] 50 := by rw [← hW6, ← hb6]; exact Blk.new wr _ _
              have hgd := good_desc HGood.out (List.mem_of_getElem? hxd)
              have hbd := HBig.out.e d (List.mem_of_getElem? hxd)
              have HX6 := Lib.hid hX6; have HB6 := Lib.hid hB6; have HD := Lib.hid hD; have Hxd := Lib.hid hxd; have HW6 := Lib.hid hW6; have Hb6 := Lib.hid hb6; have Hgd := Lib.hid hgd; have Hbd := Lib.hid hbd
              clear hX6 hB6 hD hxd hx hW6 hb6 hgd hbd
              go_upto_region 24 with fail
              rw [HW6.out]
              try rw [Hb6.out]
              clear e0 e1 e2 e3 e4 e5 e6 e7 e8 e9 e10 x0 x1 x2 x3 x4
              obtain ⟨W7, hW7⟩ : ∃ W7, W6.drew = W7 := ⟨_, rfl⟩
              have hX7 : Ex wr W7 := by rw [← hW7]; exact HX6.out.drew
              have hB7 : Blk W7 b6 #[.int .i64 d.around, .slice ca d.chain.length cc, .slice ua d.up.length uc, .int .i64 d.offset, .int .i64 d.cells, .slice va d.virts.length vc, .int .i64 d.init, .int .i64 d.enter, .int .i64 d.do_, .int .i64 d.exit, .int .i64 d.stack] 50 := by rw [← hW7]; exact HB6.out.drew
              have hS7 := HS.out.ext hX7
              have hto := own_rd encI_len hS7.rTo
              have HC0 := Lib.hid (moved_any (c := c) (n := d.init) hS7.kt hto li Hgd.out.1)
              have HC1 := Lib.hid (moved_any (c := c) (n := d.enter) hS7.kt hto li Hgd.out.2.1)
              have HC2 := Lib.hid (moved_any (c := c) (n := d.do_) hS7.kt hto li Hgd.out.2.2.1)
              have HC3 := Lib.hid (moved_any (c := c) (n := d.exit) hS7.kt hto li Hgd.out.2.2.2)
              have HQ : Hid (W7.cell? ⟨b6, 6, none⟩ = some (.int .i64 d.init) ∧ W7.cell? ⟨b6, 7, none⟩ = some (.int .i64 d.enter) ∧ W7.cell? ⟨b6, 8, none⟩ = some (.int .i64 d.do_) ∧ W7.cell? ⟨b6, 9, none⟩ = some (.int .i64 d.exit)) := Lib.hid ⟨(hB7.cell 6).trans rfl, (hB7.cell 7).trans rfl, (hB7.cell 8).trans rfl, (hB7.cell 9).trans rfl⟩
              have hwb : wr.heap.size ≤ b6 := by rw [Hb6.out]; exact Nat.le_refl _
              obtain ⟨W8, hW8⟩ : ∃ W, W7.setCell ⟨b6, 6, none⟩ (.int .i64 (movedC c d.init)) = W := ⟨_, rfl⟩
              have hB8 : Blk W8 b6 #[.int .i64 d.around, .slice ca d.chain.length cc, .slice ua d.up.length uc, .int .i64 d.offset, .int .i64 d.cells, .slice va d.virts.length vc, .int .i64 (movedC c d.init), .int .i64 d.enter, .int .i64 d.do_, .int .i64 d.exit, .int .i64 d.stack] 50 := by rw [← hW8]; exact hB7.set 6 _
              have hX8 : Ex wr W8 := by rw [← hW8]; exact hX7.setCell (.inr hwb) _
              have q8 : W7.cell? ⟨b6, 6, none⟩ = some (.int .i64 d.init) := (hB7.cell 6).trans rfl
              have f8 : W7.frozen? ⟨b6, 6, none⟩ = false := hB7.frozen _
              obtain ⟨W9, hW9⟩ : ∃ W, W8.setCell ⟨b6, 7, none⟩ (.int .i64 (movedC c d.enter)) = W := ⟨_, rfl⟩
              have hB9 : Blk W9 b6 #[.int .i64 d.around, .slice ca d.chain.length cc, .slice ua d.up.length uc, .int .i64 d.offset, .int .i64 d.cells, .slice va d.virts.length vc, .int .i64 (movedC c d.init), .int .i64 (movedC c d.enter), .int .i64 d.do_, .int .i64 d.exit, .int .i64 d.stack] 50 := by rw [← hW9]; exact hB8.set 7 _
              have hX9 : Ex wr W9 := by rw [← hW9]; exact hX8.setCell (.inr hwb) _
              have q9 : W8.cell? ⟨b6, 7, none⟩ = some (.int .i64 d.enter) := (hB8.cell 7).trans rfl
              have f9 : W8.frozen? ⟨b6, 7, none⟩ = false := hB8.frozen _
              obtain ⟨W10, hW10⟩ : ∃ W, W9.setCell ⟨b6, 8, none⟩ (.int .i64 (movedC c d.do_)) = W := ⟨_, rfl⟩
              have hB10 : Blk W10 b6 #[.int .i64 d.around, .slice ca d.chain.length cc, .slice ua d.up.length uc, .int .i64 d.offset, .int .i64 d.cells, .slice va d.virts.length vc, .int .i64 (movedC c d.init), .int .i64 (movedC c d.enter), .int .i64 (movedC c d.do_), .int .i64 d.exit, .int .i64 d.stack] 50 := by rw [← hW10]; exact hB9.set 8 _
              have hX10 : Ex wr W10 := by rw [← hW10]; exact hX9.setCell (.inr hwb) _
              have q10 : W9.cell? ⟨b6, 8, none⟩ = some (.int .i64 d.do_) := (hB9.cell 8).trans rfl
              have f10 : W9.frozen? ⟨b6, 8, none⟩ = false := hB9.frozen _
              obtain ⟨W11, hW11⟩ : ∃ W, W10.setCell ⟨b6, 9, none⟩ (.int .i64 (movedC c d.exit)) = W := ⟨_, rfl⟩
              have hB11 : Blk W11 b6 #[.int .i64 d.around, .slice ca d.chain.length cc, .slice ua d.up.length uc, .int .i64 d.offset, .int .i64 d.cells, .slice va d.virts.length vc, .int .i64 (movedC c d.init), .int .i64 (movedC c d.enter), .int .i64 (movedC c d.do_), .int .i64 (movedC c d.exit), .int .i64 d.stack] 50 := by rw [← hW11]; exact hB10.set 9 _
              have hX11 : Ex wr W11 := by rw [← hW11]; exact hX10.setCell (.inr hwb) _
              have q11 : W10.cell? ⟨b6, 9, none⟩ = some (.int .i64 d.exit) := (hB10.cell 9).trans rfl
              have f11 : W10.frozen? ⟨b6, 9, none⟩ = false := hB10.frozen _
              have HW8 := Lib.hid hW8; have HW9 := Lib.hid hW9; have HW10 := Lib.hid hW10; have HW11 := Lib.hid hW11
              have HB11 := Lib.hid hB11; have HX11 := Lib.hid hX11
              clear hX7 hB7 hS7 hto hW8 hW9 hW10 hW11 hB8 hB9 hB10 hB11 hX8 hX9 hX10 hX11
              refine region_U_plain (n := 9) (fun V => V.cell? ⟨b6, 6, none⟩ = some (.int .i64 d.init) ∧ V.cell? ⟨b6, 7, none⟩ = some (.int .i64 d.enter) ∧ V.cell? ⟨b6, 8, none⟩ = some (.int .i64 d.do_) ∧ V.cell? ⟨b6, 9, none⟩ = some (.int .i64 d.exit)) 17 (by kernel_rfl) ?_
              rw [hW7]
              clear hW7
              refine anyU_quiet (a2 := ?au3_0) 0 rfl rfl rfl (by kernel_rfl) (by kernel_rfl) (by kernel_rfl) (by kernel_rfl) (by kernel_rfl) (by kernel_rfl) (fun _ _ _ _ h => h) HQ.out ?hu3_0 ?ku3_0
              case hu3_0 => intro W hW K hK; obtain ⟨q0, q1, q2, q3⟩ := hW; go_simp; exact hK
              refine anyU_quiet (a2 := ?au3_1) 1 rfl rfl rfl (by kernel_rfl) (by kernel_rfl) (by kernel_rfl) (by kernel_rfl) (by kernel_rfl) (by kernel_rfl) (fun _ _ _ _ h => h) HQ.out ?hu3_1 ?ku3_1
              case hu3_1 => intro W hW K hK; obtain ⟨q0, q1, q2, q3⟩ := hW; go_simp; exact hK
              refine anyU_quiet (a2 := ?au3_2) 2 rfl rfl rfl (by kernel_rfl) (by kernel_rfl) (by kernel_rfl) (by kernel_rfl) (by kernel_rfl) (by kernel_rfl) (fun _ _ _ _ h => h) HQ.out ?hu3_2 ?ku3_2
              case hu3_2 => intro W hW K hK; obtain ⟨q0, q1, q2, q3⟩ := hW; go_simp; exact hK
              refine anyU_quiet (a2 := ?au3_4) 4 rfl rfl rfl (by kernel_rfl) (by kernel_rfl) (by kernel_rfl) (by kernel_rfl) (by kernel_rfl) (by kernel_rfl) (fun _ _ _ _ h => h) HQ.out ?hu3_4 ?ku3_4
              case hu3_4 => intro W hW K hK; obtain ⟨q0, q1, q2, q3⟩ := hW; go_simp; exact hK
              refine anyU_quiet (a2 := ?au3_5) 5 rfl rfl rfl (by kernel_rfl) (by kernel_rfl) (by kernel_rfl) (by kernel_rfl) (by kernel_rfl) (by kernel_rfl) (fun _ _ _ _ h => h) HQ.out ?hu3_5 ?ku3_5
              case hu3_5 => intro W hW K hK; obtain ⟨q0, q1, q2, q3⟩ := hW; go_simp; exact hK
              refine anyU_quiet (a2 := ?au3_6) 6 rfl rfl rfl (by kernel_rfl) (by kernel_rfl) (by kernel_rfl) (by kernel_rfl) (by kernel_rfl) (by kernel_rfl) (fun _ _ _ _ h => h) HQ.out ?hu3_6 ?ku3_6
              case hu3_6 => intro W hW K hK; obtain ⟨q0, q1, q2, q3⟩ := hW; go_simp; exact hK
              refine anyU_quiet (a2 := ?au3_8) 8 rfl rfl rfl (by kernel_rfl) (by kernel_rfl) (by kernel_rfl) (by kernel_rfl) (by kernel_rfl) (by kernel_rfl) (fun _ _ _ _ h => h) HQ.out ?hu3_8 ?ku3_8
              case hu3_8 => intro W hW K hK; obtain ⟨q0, q1, q2, q3⟩ := hW; go_simp; exact hK
              refine anyU_quiet (a2 := ?au3_9) 9 rfl rfl rfl (by kernel_rfl) (by kernel_rfl) (by kernel_rfl) (by kernel_rfl) (by kernel_rfl) (by kernel_rfl) (fun _ _ _ _ h => h) HQ.out ?hu3_9 ?ku3_9
              case hu3_9 => intro W hW K hK; obtain ⟨q0, q1, q2, q3⟩ := hW; go_simp; exact hK
              refine anyU_quiet (a2 := ?au3_10) 10 rfl rfl rfl (by kernel_rfl) (by kernel_rfl) (by kernel_rfl) (by kernel_rfl) (by kernel_rfl) (by kernel_rfl) (fun _ _ _ _ h => h) HQ.out ?hu3_10 ?ku3_10
              case hu3_10 => intro W hW K hK; obtain ⟨q0, q1, q2, q3⟩ := hW; go_simp; exact hK
              refine anyU_quiet (a2 := ?au3_12) 12 rfl rfl rfl (by kernel_rfl) (by kernel_rfl) (by kernel_rfl) (by kernel_rfl) (by kernel_rfl) (by kernel_rfl) (fun _ _ _ _ h => h) HQ.out ?hu3_12 ?ku3_12
              case hu3_12 => intro W hW K hK; obtain ⟨q0, q1, q2, q3⟩ := hW; go_simp; exact hK
              refine anyU_quiet (a2 := ?au3_13) 13 rfl rfl rfl (by kernel_rfl) (by kernel_rfl) (by kernel_rfl) (by kernel_rfl) (by kernel_rfl) (by kernel_rfl) (fun _ _ _ _ h => h) HQ.out ?hu3_13 ?ku3_13
              case hu3_13 => intro W hW K hK; obtain ⟨q0, q1, q2, q3⟩ := hW; go_simp; exact hK
              refine anyU_quiet (a2 := ?au3_14) 14 rfl rfl rfl (by kernel_rfl) (by kernel_rfl) (by kernel_rfl) (by kernel_rfl) (by kernel_rfl) (by kernel_rfl) (fun _ _ _ _ h => h) HQ.out ?hu3_14 ?ku3_14
              case hu3_14 => intro W hW K hK; obtain ⟨q0, q1, q2, q3⟩ := hW; go_simp; exact hK
              refine anyU_only 3 rfl (by kernel_rfl) ?_
              gi_wp2_with fail
              refine (callsIn_WF HC0.out).mono ?_
              rintro e w1 ⟨rfl, rfl⟩
              gi_wp2
              refine And.intro (.inr HQ.out) ?_
              refine anyU_quiet (a2 := ?au4_16) 16 rfl rfl rfl (by kernel_rfl) (by kernel_rfl) (by kernel_rfl) (by kernel_rfl) (by kernel_rfl) (by kernel_rfl) (fun _ _ _ _ h => h) HQ.out ?hu4_16 ?ku4_16
              case hu4_16 => intro W hW K hK; obtain ⟨q0, q1, q2, q3⟩ := hW; go_simp; exact hK
              refine anyU_only 7 rfl (by kernel_rfl) ?_
              gi_wp2_with fail
              refine (callsIn_WF HC1.out).mono ?_
              rintro e w1 ⟨rfl, rfl⟩
              gi_wp2
              refine And.intro (.inr HQ.out) ?_
              refine anyU_only 11 rfl (by kernel_rfl) ?_
              gi_wp2_with fail
              refine (callsIn_WF HC2.out).mono ?_
              rintro e w1 ⟨rfl, rfl⟩
              gi_wp2
              refine And.intro (.inr HQ.out) ?_
              refine anyU_only 15 rfl (by kernel_rfl) ?_
              gi_wp2_with fail
              refine (callsIn_WF HC3.out).mono ?_
              rintro e w1 ⟨rfl, rfl⟩
              gi_wp2
              refine And.intro (.inr HQ.out) ?_
              refine anyU_only 17 rfl (by kernel_rfl) ?_
              gi_wp2
              rw [HW8.out]
              refine And.intro (.inl (by kernel_rfl)) ?_
              refine anyU_only 18 rfl (by kernel_rfl) ?_
              gi_wp2
              refine And.intro (.inl (by kernel_rfl)) ?_
              refine anyU_only 19 rfl (by kernel_rfl) ?_
              gi_wp2
              rw [HW9.out]
              refine And.intro (.inl (by kernel_rfl)) ?_
              refine anyU_only 20 rfl (by kernel_rfl) ?_
              gi_wp2
              refine And.intro (.inl (by kernel_rfl)) ?_
              refine anyU_only 21 rfl (by kernel_rfl) ?_
              gi_wp2
              rw [HW10.out]
              refine And.intro (.inl (by kernel_rfl)) ?_
              refine anyU_only 22 rfl (by kernel_rfl) ?_
              gi_wp2
              refine And.intro (.inl (by kernel_rfl)) ?_
              refine anyU_only 23 rfl (by kernel_rfl) ?_
              gi_wp2
              rw [HW11.out]
              refine And.intro (.inl (by kernel_rfl)) ?_
              refine anyU_done (by kernel_rfl) ?_ _
              clear q8 f8 q9 f9 q10 f10 q11 f11 HQ HC0 HC1 HC2 HC3
              go_upto_region 25 with fail
              obtain ⟨W12, hW12⟩ : ∃ W12, W11.drew = W12 := ⟨_, rfl⟩
              have hX12 : Ex wr W12 := by rw [← hW12]; exact HX11.out.drew
              have hB12 : Blk W12 b6 #[.int .i64 d.around, .slice ca d.chain.length cc, .slice ua d.up.length uc, .int .i64 d.offset, .int .i64 d.cells, .slice va d.virts.length vc, .int .i64 (movedC c d.init), .int .i64 (movedC c d.enter), .int .i64 (movedC c d.do_), .int .i64 (movedC c d.exit), .int .i64 d.stack] 50 := by rw [← hW12]; exact HB11.out.drew
              have HQof : ∀ V, Blk V b6 #[.int .i64 d.around, .slice ca d.chain.length cc, .slice ua d.up.length uc, .int .i64 d.offset, .int .i64 d.cells, .slice va d.virts.length vc, .int .i64 (movedC c d.init), .int .i64 (movedC c d.enter), .int .i64 (movedC c d.do_), .int .i64 (movedC c d.exit), .int .i64 d.stack] 50 → Hid (V.cell? ⟨b6, 1, none⟩ = some (.slice ca d.chain.length cc) ∧ V.cell? ⟨b6, 2, none⟩ = some (.slice ua d.up.length uc) ∧ V.cell? ⟨b6, 5, none⟩ = some (.slice va d.virts.length vc)) := fun V hV => Lib.hid ⟨(hV.cell 1).trans rfl, (hV.cell 2).trans rfl, (hV.cell 5).trans rfl⟩
              have HQ := HQof W12 hB12
              have HX12 := Lib.hid hX12; have HB12' := Lib.hid hB12
              have HC0 := Lib.hid (cloneI_any (HD.out.chain.ext hX12) (by have := Hbd.out.1; show d.chain.length ≤ _; omega))
              clear hX12 hB12
              refine region_U_plain (n := 9) (fun V => V.cell? ⟨b6, 1, none⟩ = some (.slice ca d.chain.length cc) ∧ V.cell? ⟨b6, 2, none⟩ = some (.slice ua d.up.length uc) ∧ V.cell? ⟨b6, 5, none⟩ = some (.slice va d.virts.length vc)) 10 (by kernel_rfl) ?_
              rw [hW12]
              clear hW12
              refine anyU_quiet (a2 := ?au5_0) 0 rfl rfl rfl (by kernel_rfl) (by kernel_rfl) (by kernel_rfl) (by kernel_rfl) (by kernel_rfl) (by kernel_rfl) (fun _ _ _ _ h => h) HQ.out ?hu5_0 ?ku5_0
              case hu5_0 => intro W hW K hK; obtain ⟨q0, q1, q2⟩ := hW; go_simp; exact hK
              refine anyU_quiet (a2 := ?au5_1) 1 rfl rfl rfl (by kernel_rfl) (by kernel_rfl) (by kernel_rfl) (by kernel_rfl) (by kernel_rfl) (by kernel_rfl) (fun _ _ _ _ h => h) HQ.out ?hu5_1 ?ku5_1
              case hu5_1 => intro W hW K hK; obtain ⟨q0, q1, q2⟩ := hW; go_simp; exact hK
              refine anyU_quiet (a2 := ?au5_3) 3 rfl rfl rfl (by kernel_rfl) (by kernel_rfl) (by kernel_rfl) (by kernel_rfl) (by kernel_rfl) (by kernel_rfl) (fun _ _ _ _ h => h) HQ.out ?hu5_3 ?ku5_3
              case hu5_3 => intro W hW K hK; obtain ⟨q0, q1, q2⟩ := hW; go_simp; exact hK
              refine anyU_quiet (a2 := ?au5_4) 4 rfl rfl rfl (by kernel_rfl) (by kernel_rfl) (by kernel_rfl) (by kernel_rfl) (by kernel_rfl) (by kernel_rfl) (fun _ _ _ _ h => h) HQ.out ?hu5_4 ?ku5_4
              case hu5_4 => intro W hW K hK; obtain ⟨q0, q1, q2⟩ := hW; go_simp; exact hK
              refine anyU_quiet (a2 := ?au5_6) 6 rfl rfl rfl (by kernel_rfl) (by kernel_rfl) (by kernel_rfl) (by kernel_rfl) (by kernel_rfl) (by kernel_rfl) (fun _ _ _ _ h => h) HQ.out ?hu5_6 ?ku5_6
              case hu5_6 => intro W hW K hK; obtain ⟨q0, q1, q2⟩ := hW; go_simp; exact hK
              refine anyU_quiet (a2 := ?au5_7) 7 rfl rfl rfl (by kernel_rfl) (by kernel_rfl) (by kernel_rfl) (by kernel_rfl) (by kernel_rfl) (by kernel_rfl) (fun _ _ _ _ h => h) HQ.out ?hu5_7 ?ku5_7
              case hu5_7 => intro W hW K hK; obtain ⟨q0, q1, q2⟩ := hW; go_simp; exact hK
              refine anyU_only 2 rfl (by kernel_rfl) ?_
              gi_wp2_with fail
              refine (callsIn_WF HC0.out).mono ?_
              rintro e w13 ⟨v13, rfl, ho13, hx13⟩
              obtain ⟨ca2, cc2, rfl⟩ := own_slice ho13
              have HQ13 := HQof w13 (hx13.blk HB12'.out id)
              have HX13 := Lib.hid (HX12.out.trans hx13); have HB13 := Lib.hid (hx13.blk HB12'.out id); have HO13 := Lib.hid (row_base (base' := w.heap.size) ho13 (by have := HS.out.ex.size; have := HX12.out.size; omega))
              have HC1 := Lib.hid (cloneI_any (HD.out.up.ext HX13.out) (by have := Hbd.out.2.1; show d.up.length ≤ _; omega))
              clear HQ HC0 ho13 hx13
              gi_wp2
              refine And.intro (.inr HQ13.out) ?_
              refine anyU_quiet (a2 := ?au6_9) 9 rfl rfl rfl (by kernel_rfl) (by kernel_rfl) (by kernel_rfl) (by kernel_rfl) (by kernel_rfl) (by kernel_rfl) (fun _ _ _ _ h => h) HQ13.out ?hu6_9 ?ku6_9
              case hu6_9 => intro W hW K hK; obtain ⟨q0, q1, q2⟩ := hW; go_simp; exact hK
              refine anyU_only 5 rfl (by kernel_rfl) ?_
              gi_wp2_with fail
              refine (callsIn_WF HC1.out).mono ?_
              rintro e w14 ⟨v14, rfl, ho14, hx14⟩
              obtain ⟨ua2, uc2, rfl⟩ := own_slice ho14
              have HQ14 := HQof w14 (hx14.blk HB13.out id)
              have HX14 := Lib.hid (HX13.out.trans hx14); have HB14 := Lib.hid (hx14.blk HB13.out id); have HO14 := Lib.hid (row_base (base' := w.heap.size) ho14 (by have := HS.out.ex.size; have := HX13.out.size; omega))
              have HO13b := Lib.hid (own_kept HO13.out hx14)
              have HC2 := Lib.hid (cloneV_any (HD.out.virts.ext HX14.out) (by have := Hbd.out.2.2; show d.virts.length ≤ _; omega))
              clear HQ13 HC1 ho14 hx14 HO13
              gi_wp2
              refine And.intro (.inr HQ14.out) ?_
              refine anyU_only 8 rfl (by kernel_rfl) ?_
              gi_wp2_with fail
              refine (callsIn_WF HC2.out).mono ?_
              rintro e w15 ⟨v15, rfl, ho15, hx15⟩
              obtain ⟨va2, vc2, rfl⟩ := own_slice ho15
              have HQ15 := HQof w15 (hx15.blk HB14.out id)
              have hX15 := HX14.out.trans hx15
              have hB15 := hx15.blk HB14.out id
              have hwb15 : w.heap.size ≤ w14.heap.size := by have := HS.out.ex.size; have := HX14.out.size; omega
              have hOD : OwnDe w15 w.heap.size ⟨stripD c d, .slice ca2 d.chain.length cc2, .slice ua2 d.up.length uc2, .slice va2 d.virts.length vc2⟩ := ⟨own_kept HO13b.out hx15, own_kept HO14.out hx15, row_base ho15 hwb15⟩
              have hneb : b6 ≠ n ∧ w.heap.size ≤ b6 := ⟨by have := HS.out.k1.lt; omega, by have := HS.out.ex.size; omega⟩
              obtain ⟨W16, hW16⟩ : ∃ W, w15.setCell ⟨b6, 1, none⟩ (.slice ca2 d.chain.length cc2) = W := ⟨_, rfl⟩
              have hB16 : Blk W16 b6 #[.int .i64 d.around, .slice ca2 d.chain.length cc2, .slice ua d.up.length uc, .int .i64 d.offset, .int .i64 d.cells, .slice va d.virts.length vc, .int .i64 (movedC c d.init), .int .i64 (movedC c d.enter), .int .i64 (movedC c d.do_), .int .i64 (movedC c d.exit), .int .i64 d.stack] 50 := by rw [← hW16]; exact hB15.set 1 _
              have hX16 : Ex wr W16 := by rw [← hW16]; exact hX15.setCell (.inr hwb) _
              have hOD16 : OwnDe W16 w.heap.size ⟨stripD c d, .slice ca2 d.chain.length cc2, .slice ua2 d.up.length uc2, .slice va2 d.virts.length vc2⟩ := by rw [← hW16]; exact hOD.set hB15 (by decide) (by decide) _ _
              have q16 : w15.cell? ⟨b6, 1, none⟩ = some (.slice ca d.chain.length cc) := (hB15.cell 1).trans rfl
              have f16 : w15.frozen? ⟨b6, 1, none⟩ = false := hB15.frozen _
              obtain ⟨W17, hW17⟩ : ∃ W, W16.setCell ⟨b6, 2, none⟩ (.slice ua2 d.up.length uc2) = W := ⟨_, rfl⟩
              have hB17 : Blk W17 b6 #[.int .i64 d.around, .slice ca2 d.chain.length cc2, .slice ua2 d.up.length uc2, .int .i64 d.offset, .int .i64 d.cells, .slice va d.virts.length vc, .int .i64 (movedC c d.init), .int .i64 (movedC c d.enter), .int .i64 (movedC c d.do_), .int .i64 (movedC c d.exit), .int .i64 d.stack] 50 := by rw [← hW17]; exact hB16.set 2 _
              have hX17 : Ex wr W17 := by rw [← hW17]; exact hX16.setCell (.inr hwb) _
              have hOD17 : OwnDe W17 w.heap.size ⟨stripD c d, .slice ca2 d.chain.length cc2, .slice ua2 d.up.length uc2, .slice va2 d.virts.length vc2⟩ := by rw [← hW17]; exact hOD16.set hB16 (by decide) (by decide) _ _
              have q17 : W16.cell? ⟨b6, 2, none⟩ = some (.slice ua d.up.length uc) := (hB16.cell 2).trans rfl
              have f17 : W16.frozen? ⟨b6, 2, none⟩ = false := hB16.frozen _
              obtain ⟨W18, hW18⟩ : ∃ W, W17.setCell ⟨b6, 5, none⟩ (.slice va2 d.virts.length vc2) = W := ⟨_, rfl⟩
              have hB18 : Blk W18 b6 #[.int .i64 d.around, .slice ca2 d.chain.length cc2, .slice ua2 d.up.length uc2, .int .i64 d.offset, .int .i64 d.cells, .slice va2 d.virts.length vc2, .int .i64 (movedC c d.init), .int .i64 (movedC c d.enter), .int .i64 (movedC c d.do_), .int .i64 (movedC c d.exit), .int .i64 d.stack] 50 := by rw [← hW18]; exact hB17.set 5 _
              have hX18 : Ex wr W18 := by rw [← hW18]; exact hX17.setCell (.inr hwb) _
              have hOD18 : OwnDe W18 w.heap.size ⟨stripD c d, .slice ca2 d.chain.length cc2, .slice ua2 d.up.length uc2, .slice va2 d.virts.length vc2⟩ := by rw [← hW18]; exact hOD17.set hB17 (by decide) (by decide) _ _
              have q18 : W17.cell? ⟨b6, 5, none⟩ = some (.slice va d.virts.length vc) := (hB17.cell 5).trans rfl
              have f18 : W17.frozen? ⟨b6, 5, none⟩ = false := hB17.frozen _
              have HW16 := Lib.hid hW16; have HW17 := Lib.hid hW17; have HW18 := Lib.hid hW18
              have HB18 := Lib.hid hB18; have HX18 := Lib.hid hX18; have HOD18 := Lib.hid hOD18
              clear HQ14 HC2 ho15 hx15 HO13b HO14 HX12 HX13 HX14 HB13 HB14 HB12' hX15 hB15 hwb15 hOD hneb hW16 hW17 hW18 hB16 hB17 hB18 hX16 hX17 hX18 hOD16 hOD17 hOD18
              gi_wp2
              refine And.intro (.inr HQ15.out) ?_
              refine anyU_only 10 rfl (by kernel_rfl) ?_
              gi_wp2
              rw [HW16.out]
              refine And.intro (.inl (by kernel_rfl)) ?_
              refine anyU_only 11 rfl (by kernel_rfl) ?_
              gi_wp2
              refine And.intro (.inl (by kernel_rfl)) ?_
              refine anyU_only 12 rfl (by kernel_rfl) ?_
              gi_wp2
              rw [HW17.out]
              refine And.intro (.inl (by kernel_rfl)) ?_
              refine anyU_only 13 rfl (by kernel_rfl) ?_
              gi_wp2
              refine And.intro (.inl (by kernel_rfl)) ?_
              refine anyU_only 14 rfl (by kernel_rfl) ?_
              gi_wp2
              rw [HW18.out]
              refine And.intro (.inl (by kernel_rfl)) ?_
              refine anyU_done (by kernel_rfl) ?_ _
              clear q16 f16 q17 f17 q18 f18 HQ15 HQof
              have hS18 := HS.out.ext HX18.out
              obtain ⟨va3, vc3, rfl⟩ := own_slice hS18.rDs
              obtain ⟨dl, hdl⟩ : ∃ dl, ds.length = dl := ⟨_, rfl⟩
              have hdk : dl = k2 := by
                have := congrArg List.length Hds.out
                rw [List.length_map, List.length_map, List.length_take, ← HN.out] at this
                omega
              obtain ⟨W19, hW19⟩ : ∃ W19, W18.alloc (.cells #[.int .i64 d.around, .slice ca2 d.chain.length cc2, .slice ua2 d.up.length uc2, .int .i64 d.offset, .int .i64 d.cells, .slice va2 d.virts.length vc2, .int .i64 (movedC c d.init), .int .i64 (movedC c d.enter), .int .i64 (movedC c d.do_), .int .i64 (movedC c d.exit), .int .i64 d.stack] 50) = W19 := ⟨_, rfl⟩
              obtain ⟨b19, hb19⟩ : ∃ b19, W18.heap.size = b19 := ⟨_, rfl⟩
              have hX19 : Ex W18 W19 := by rw [← hW19]; exact (Keeps.refl _ _).alloc _
              have hS19 := hS18.ext hX19
              rw [hdl] at hS19
              have hnew19 : ∀ (j : Nat) u, (encD ⟨stripD c d, .slice ca2 d.chain.length cc2, .slice ua2 d.up.length uc2, .slice va2 d.virts.length vc2⟩)[j]? = some u → W19.cell? ((⟨b19, 0, none⟩ : Addr).add j) = some u := by
                rw [← hW19, ← hb19]; exact cells_new W18 _ _
              have o18 : W18.cell? ⟨bt + 1, 0, none⟩ = some (.slice va3 dl vc3) := by rw [← hdl]; exact (hS18.ko.cell 0).trans rfl
              have r0 : W18.cell? ⟨b6, 0, none⟩ = some (.int .i64 d.around) := (HB18.out.cell 0).trans rfl
              have r1 : W18.cell? ⟨b6, 1, none⟩ = some (.slice ca2 d.chain.length cc2) := (HB18.out.cell 1).trans rfl
              have r2 : W18.cell? ⟨b6, 2, none⟩ = some (.slice ua2 d.up.length uc2) := (HB18.out.cell 2).trans rfl
              have r3 : W18.cell? ⟨b6, 3, none⟩ = some (.int .i64 d.offset) := (HB18.out.cell 3).trans rfl
              have r4 : W18.cell? ⟨b6, 4, none⟩ = some (.int .i64 d.cells) := (HB18.out.cell 4).trans rfl
              have r5 : W18.cell? ⟨b6, 5, none⟩ = some (.slice va2 d.virts.length vc2) := (HB18.out.cell 5).trans rfl
              have r6 : W18.cell? ⟨b6, 6, none⟩ = some (.int .i64 (movedC c d.init)) := (HB18.out.cell 6).trans rfl
              have r7 : W18.cell? ⟨b6, 7, none⟩ = some (.int .i64 (movedC c d.enter)) := (HB18.out.cell 7).trans rfl
              have r8 : W18.cell? ⟨b6, 8, none⟩ = some (.int .i64 (movedC c d.do_)) := (HB18.out.cell 8).trans rfl
              have r9 : W18.cell? ⟨b6, 9, none⟩ = some (.int .i64 (movedC c d.exit)) := (HB18.out.cell 9).trans rfl
              have r10 : W18.cell? ⟨b6, 10, none⟩ = some (.int .i64 d.stack) := (HB18.out.cell 10).trans rfl
              have HS19 := Lib.hid hS19; have HOD19 := Lib.hid (HOD18.out.ext hX19); have HW19 := Lib.hid hW19; have Hb19 := Lib.hid hb19; have HNew19 := Lib.hid hnew19; have Hdl := Lib.hid hdl; have Hdk := Lib.hid hdk
              clear hS18 hX19 hS19 hnew19 hW19 hb19 hdl hdk
              go_wp2_with (at_builtin; refine (fun h => h trivial : (True → _) → _) ?_)
              intro _
              rw [HW19.out]
              try rw [Hb19.out]
              clear r0 r1 r2 r3 r4 r5 r6 r7 r8 r9 r10 o18
              obtain ⟨i0, hi, hz0, hz1, hz2⟩ := info_split info_deC
              have hrD := HS19.out.rDs
              rw [Hdl.out] at hrD
              refine wpList_append_fresh rfl _ _ 22 rfl w.heap.size 50 i0 _ 11 136 Tryz.underlying22 hi hz0 hz1 hz2 rfl (by decide) (.slice va3 dl vc3) dl _ rfl hrD ⟨b19, 0, none⟩ 1 1 _ rfl rfl HNew19.out (by intro u hu; simp only [encD, List.mem_cons, List.not_mem_nil, or_false] at hu; rcases hu with rfl | rfl | rfl | rfl | rfl | rfl | rfl | rfl | rfl | rfl | rfl <;> rfl) (by have := Hdk.out; unfold maxLen; omega) (by have := Hdk.out; omega) HS19.out.ex.size ?_
              intro v20 w20 g1 g2 _ _
              obtain ⟨va4, vc4, rfl⟩ := own_slice g1
              obtain ⟨hO20, hS21⟩ := HS19.out.growD (dv' := .slice va4 (dl + 1) vc4) g2 (by rw [Hdl.out]; exact g1) HOD19.out (by rw [Hn.out]; omega) (by omega) (by omega)
              have o20 : w20.cell? ⟨bt + 1, 0, none⟩ = some (.slice va3 dl vc3) := (hO20.cell 0).trans rfl
              have f20 : w20.frozen? ⟨bt + 1, 0, none⟩ = false := hO20.frozen 0
              obtain ⟨W21, hW21⟩ : ∃ W21, w20.setCell ⟨bt + 1, 0, none⟩ (.slice va4 (dl + 1) vc4) = W21 := ⟨_, rfl⟩
              rw [hW21] at hS21
              have hds2 : (ds ++ [(⟨stripD c d, .slice ca2 d.chain.length cc2, .slice ua2 d.up.length uc2, .slice va2 d.virts.length vc2⟩ : DeV)]).map DeV.d = (c.descs.take (k2 + 1)).map (stripD c) := by
                rw [List.take_add_one, Hxd.out, List.map_append, List.map_append, Hds.out]; rfl
              have HS21 := Lib.hid hS21; have HW21 := Lib.hid hW21; have Hds2 := Lib.hid hds2
              clear g1 g2 hO20 hS21 hW21 hds2 hrD hi
              go_upto_region 27 with fail
              rw [HW21.out]
              clear o20 f20
              go_wp2_with fail
              go_roundw
              case rel => exact ⟨k2 + 1, _, _, by omega, by go_num, Hds2, HS21⟩
              case measure => simp [intOf]; omega
            case neg =>
              have : k2 = xs.length := by omega
              subst this
              rw [HN.out, List.take_length] at Hds
              obtain ⟨dl, hdl⟩ : ∃ dl, ds.length = dl := ⟨_, rfl⟩
              obtain ⟨va3, vc3, rfl⟩ := own_slice HS.out.rDs
              have hS := HS.out
              rw [hdl] at hS
              have HSL := Lib.hid hS; have Hdl := Lib.hid hdl
              clear hS hdl HS hk2 hlt
              go_wp2_with fail
              clear x0 x1 x2 x3 x4
              have HSL0 : Hid (StS w n (n + 1) bt (bt + 1) V1 (.slice ta1 tl tc1) (.slice va3 dl vc3) (.slice none 0 0) (.slice ia1 k ic1) (toL c) ds ((c.labels.take 0).map (stripL c)) (stripI c) wr) := HSL
              clear HSL
              go_loopw [129] (fun s V => ∃ (k3 : Nat) (lv3 : Value), k3 ≤ c.labels.length ∧ s = .int .i64 k3 ∧ Hid (StS w n (n + 1) bt (bt + 1) V1 (.slice ta1 tl tc1) (.slice va3 dl vc3) lv3 (.slice ia1 k ic1) (toL c) ds ((c.labels.take k3).map (stripL c)) (stripI c) V)) (fun s V => c.labels.length - (intOf s).toNat)
              case atStart => exact ⟨0, _, Nat.zero_le _, rfl, HSL0⟩
              clear HSL0
              case round =>
                obtain ⟨k3, lv3, hk3, rfl, HS⟩ := hrel
                by_cases hlt : k3 < c.labels.length
                case pos =>
                  obtain ⟨lad, rfl⟩ : ∃ ad, la = some ad := by
                    cases la with
                    | none => have := Hl1.out rfl; rw [this] at hlt; simp at hlt
                    | some ad => exact ⟨ad, rfl⟩
                  obtain ⟨l, hx⟩ : ∃ l, c.labels[k3]? = some l := ⟨_, List.getElem?_eq_getElem hlt⟩
                  obtain ⟨A, hA⟩ : ∃ A, lad.add (k3 * 2) = A := ⟨_, rfl⟩
                  obtain ⟨e0, e1⟩ := (H.out.ls.ext HS.out.ex).lbCells hx hA
                  obtain ⟨x0, x1, x2, x3, x4⟩ := (HF0 wr HS.out.k1).out
                  obtain ⟨W6, hW6⟩ : ∃ W6, wr.alloc (.cells #[.int .i64 l.1, .int .i64 l.2] 90) = W6 := ⟨_, rfl⟩
                  obtain ⟨b6, hb6⟩ : ∃ b6, wr.heap.size = b6 := ⟨_, rfl⟩
                  have hX6 : Ex wr W6 := by rw [← hW6]; exact (Keeps.refl _ wr).alloc _
                  have hB6 : Blk W6 b6 #[.int .i64 l.1, .int .i64 l.2] 90 := by rw [← hW6, ← hb6]; exact Blk.new wr _ _
                  have hgl := HGood.out.labels l (List.mem_of_getElem? hx)
                  have HX6 := Lib.hid hX6; have HB6 := Lib.hid hB6; have Hx := Lib.hid hx; have HW6 := Lib.hid hW6; have Hb6 := Lib.hid hb6; have Hgl := Lib.hid hgl
                  clear hX6 hB6 hx hW6 hb6 hgl
                  go_upto_region 31 with fail
                  rw [HW6.out]
                  try rw [Hb6.out]
                  clear e0 e1 x0 x1 x2 x3 x4
                  obtain ⟨W7, hW7⟩ : ∃ W7, W6.drew = W7 := ⟨_, rfl⟩
                  have hX7 : Ex wr W7 := by rw [← hW7]; exact HX6.out.drew
                  have hB7 : Blk W7 b6 #[.int .i64 l.1, .int .i64 l.2] 90 := by rw [← hW7]; exact HB6.out.drew
                  have hS7 := HS.out.ext hX7
                  have hto := own_rd encI_len hS7.rTo
                  have HC0 := Lib.hid (moved_any (c := c) (n := l.1) hS7.kt hto li (good_inside Hgl.out.1))
                  have HC1 := Lib.hid (moved_any (c := c) (n := l.2) hS7.kt hto li (good_inside Hgl.out.2))
                  obtain ⟨al3, cl3, rfl⟩ := own_slice hS7.rLs
                  have hll : ((c.labels.take k3).map (stripL c)).length = k3 := by rw [List.length_map, List.length_take]; omega
                  rw [hll] at hS7
                  have hk1 : W7.cell? ⟨bt + 1, 1, none⟩ = some (.slice al3 k3 cl3) := (hS7.ko.cell 1).trans rfl
                  have HQ : Hid (W7.cell? ⟨bt + 1, 1, none⟩ = some (.slice al3 k3 cl3) ∧ W7.cell? ⟨b6, 0, none⟩ = some (.int .i64 l.1) ∧ W7.cell? ⟨b6, 1, none⟩ = some (.int .i64 l.2)) := Lib.hid ⟨hk1, (hB7.cell 0).trans rfl, (hB7.cell 1).trans rfl⟩
                  obtain ⟨W8, hW8⟩ : ∃ W8, W7.alloc (.cells #[.int .i64 (movedC c l.1), .int .i64 (movedC c l.2)] 90) = W8 := ⟨_, rfl⟩
                  obtain ⟨b8, hb8⟩ : ∃ b8, W7.heap.size = b8 := ⟨_, rfl⟩
                  have hX8 : Ex W7 W8 := by rw [← hW8]; exact (Keeps.refl _ _).alloc _
                  have hS8 := hS7.ext hX8
                  have hB8 := hX8.blk hB7 id
                  have HQ8 : Hid (W8.cell? ⟨bt + 1, 1, none⟩ = some (.slice al3 k3 cl3) ∧ W8.cell? ⟨b6, 0, none⟩ = some (.int .i64 l.1) ∧ W8.cell? ⟨b6, 1, none⟩ = some (.int .i64 l.2)) := Lib.hid ⟨(hS8.ko.cell 1).trans rfl, (hB8.cell 0).trans rfl, (hB8.cell 1).trans rfl⟩
                  have hnew8 : ∀ (j : Nat) u, (encL (stripL c l))[j]? = some u → W8.cell? ((⟨b8, 0, none⟩ : Addr).add j) = some u := by
                    rw [← hW8, ← hb8]; exact cells_new W7 _ _
                  have HS8 := Lib.hid hS8; have HW8 := Lib.hid hW8; have Hb8 := Lib.hid hb8; have HNew8 := Lib.hid hnew8; have Hll := Lib.hid hll
                  clear hX7 hB7 hS7 hto hk1 hX8 hS8 hB8 hnew8 hW8 hb8 hll
                  refine region_U_plain (n := 9) (fun V => V.cell? ⟨bt + 1, 1, none⟩ = some (.slice al3 k3 cl3) ∧ V.cell? ⟨b6, 0, none⟩ = some (.int .i64 l.1) ∧ V.cell? ⟨b6, 1, none⟩ = some (.int .i64 l.2)) 12 (by kernel_rfl) ?_
                  rw [hW7]
                  clear hW7
                  refine anyU_quiet (a2 := ?au7_0) 0 rfl rfl rfl (by kernel_rfl) (by kernel_rfl) (by kernel_rfl) (by kernel_rfl) (by kernel_rfl) (by kernel_rfl) (fun _ _ _ _ h => h) HQ.out ?hu7_0 ?ku7_0
                  case hu7_0 => intro W hW K hK; obtain ⟨q0, q1, q2⟩ := hW; go_simp; exact hK
                  refine anyU_quiet (a2 := ?au7_1) 1 rfl rfl rfl (by kernel_rfl) (by kernel_rfl) (by kernel_rfl) (by kernel_rfl) (by kernel_rfl) (by kernel_rfl) (fun _ _ _ _ h => h) HQ.out ?hu7_1 ?ku7_1
                  case hu7_1 => intro W hW K hK; obtain ⟨q0, q1, q2⟩ := hW; go_simp; exact hK
                  refine anyU_quiet (a2 := ?au7_2) 2 rfl rfl rfl (by kernel_rfl) (by kernel_rfl) (by kernel_rfl) (by kernel_rfl) (by kernel_rfl) (by kernel_rfl) (fun _ _ _ _ h => h) HQ.out ?hu7_2 ?ku7_2
                  case hu7_2 => intro W hW K hK; obtain ⟨q0, q1, q2⟩ := hW; go_simp; exact hK
                  refine anyU_quiet (a2 := ?au7_3) 3 rfl rfl rfl (by kernel_rfl) (by kernel_rfl) (by kernel_rfl) (by kernel_rfl) (by kernel_rfl) (by kernel_rfl) (fun _ _ _ _ h => h) HQ.out ?hu7_3 ?ku7_3
                  case hu7_3 => intro W hW K hK; obtain ⟨q0, q1, q2⟩ := hW; go_simp; exact hK
                  refine anyU_quiet (a2 := ?au7_4) 4 rfl rfl rfl (by kernel_rfl) (by kernel_rfl) (by kernel_rfl) (by kernel_rfl) (by kernel_rfl) (by kernel_rfl) (fun _ _ _ _ h => h) HQ.out ?hu7_4 ?ku7_4
                  case hu7_4 => intro W hW K hK; obtain ⟨q0, q1, q2⟩ := hW; go_simp; exact hK
                  refine anyU_quiet (a2 := ?au7_6) 6 rfl rfl rfl (by kernel_rfl) (by kernel_rfl) (by kernel_rfl) (by kernel_rfl) (by kernel_rfl) (by kernel_rfl) (fun _ _ _ _ h => h) HQ.out ?hu7_6 ?ku7_6
                  case hu7_6 => intro W hW K hK; obtain ⟨q0, q1, q2⟩ := hW; go_simp; exact hK
                  refine anyU_quiet (a2 := ?au7_7) 7 rfl rfl rfl (by kernel_rfl) (by kernel_rfl) (by kernel_rfl) (by kernel_rfl) (by kernel_rfl) (by kernel_rfl) (fun _ _ _ _ h => h) HQ.out ?hu7_7 ?ku7_7
                  case hu7_7 => intro W hW K hK; obtain ⟨q0, q1, q2⟩ := hW; go_simp; exact hK
                  refine anyU_quiet (a2 := ?au7_8) 8 rfl rfl rfl (by kernel_rfl) (by kernel_rfl) (by kernel_rfl) (by kernel_rfl) (by kernel_rfl) (by kernel_rfl) (fun _ _ _ _ h => h) HQ.out ?hu7_8 ?ku7_8
                  case hu7_8 => intro W hW K hK; obtain ⟨q0, q1, q2⟩ := hW; go_simp; exact hK
                  refine anyU_only 5 rfl (by kernel_rfl) ?_
                  gi_wp2_with fail
                  refine (callsIn_WF HC0.out).mono ?_
                  rintro e w1 ⟨rfl, rfl⟩
                  gi_wp2
                  refine And.intro (.inr HQ.out) ?_
                  refine anyU_only 9 rfl (by kernel_rfl) ?_
                  gi_wp2_with fail
                  refine (callsIn_WF HC1.out).mono ?_
                  rintro e w1 ⟨rfl, rfl⟩
                  gi_wp2
                  refine And.intro (.inr HQ.out) ?_
                  refine anyU_only 10 rfl (by kernel_rfl) ?_
                  gi_wp2
                  refine And.intro (.inr HQ.out) ?_
                  refine anyU_only 11 rfl (by kernel_rfl) ?_
                  gi_wp2
                  rw [HW8.out]
                  try rw [Hb8.out]
                  refine And.intro (.inr HQ8.out) ?_
                  refine anyU_only 12 rfl (by kernel_rfl) ?_
                  clear HQ HC0 HC1
                  obtain ⟨i0, hi, hz0, hz1, hz2⟩ := info_split info_stL
                  have hrL := HS8.out.rLs
                  rw [Hll.out] at hrL
                  refine wpListIn_append_fresh rfl _ _ 23 rfl w.heap.size 90 i0 _ 2 16 Tryz.underlying23 hi hz0 hz1 hz2 rfl (by decide) (.slice al3 k3 cl3) k3 _ rfl hrL ⟨b8, 0, none⟩ 1 1 _ rfl rfl HNew8.out (by intro u hu; simp only [encL, List.mem_cons, List.not_mem_nil, or_false] at hu; rcases hu with rfl | rfl <;> rfl) (by unfold maxLen; omega) (by omega) HS8.out.ex.size ?_
                  intro v20 w20 g1 g2 _ _
                  obtain ⟨al4, cl4, rfl⟩ := own_slice g1
                  obtain ⟨hO20, hS21⟩ := HS8.out.growL (lv' := .slice al4 (k3 + 1) cl4) (m := stripL c l) g2 (by rw [Hll.out]; exact g1) (by rw [Hn.out]; omega) (by omega) (by omega)
                  have o20 : w20.cell? ⟨bt + 1, 1, none⟩ = some (.slice al3 k3 cl3) := (hO20.cell 1).trans rfl
                  have f20 : w20.frozen? ⟨bt + 1, 1, none⟩ = false := hO20.frozen 1
                  obtain ⟨W21, hW21⟩ : ∃ W21, w20.setCell ⟨bt + 1, 1, none⟩ (.slice al4 (k3 + 1) cl4) = W21 := ⟨_, rfl⟩
                  rw [hW21] at hS21
                  have hls2 : (c.labels.take k3).map (stripL c) ++ [stripL c l] = (c.labels.take (k3 + 1)).map (stripL c) := by
                    rw [List.take_add_one, Hx.out, List.map_append]; rfl
                  rw [hls2] at hS21
                  have HS21 := Lib.hid hS21; have HW21 := Lib.hid hW21
                  clear g1 g2 hO20 hS21 hW21 hls2 hrL hi HQ8
                  refine And.intro (.inl (by kernel_rfl)) ?_
                  refine anyU_only 13 rfl (by kernel_rfl) ?_
                  gi_wp2
                  refine And.intro (.inl (by kernel_rfl)) ?_
                  refine anyU_only 14 rfl (by kernel_rfl) ?_
                  gi_wp2
                  rw [HW21.out]
                  refine And.intro (.inl (by kernel_rfl)) ?_
                  refine anyU_done (by kernel_rfl) ?_ _
                  clear o20 f20
                  go_wp2_with fail
                  go_roundw
                  case rel => exact ⟨k3 + 1, _, by omega, by go_num, HS21⟩
                  case measure => simp [intOf]; omega
                case neg =>
                  have : k3 = c.labels.length := by omega
                  subst this
                  rw [List.take_length] at HS
                  obtain ⟨al3, cl3, rfl⟩ := own_slice HS.out.rLs
                  have hll : (c.labels.map (stripL c)).length = c.labels.length := List.length_map ..
                  have hS := HS.out
                  rw [hll] at hS
                  go_upto_region 33 with fail
                  obtain ⟨W7, hW7⟩ : ∃ W7, wr.drew = W7 := ⟨_, rfl⟩
                  have hX7 : Ex wr W7 := by rw [← hW7]; exact (Keeps.refl _ _).drew
                  have hS7 := hS.ext hX7
                  have hQof : ∀ V, Blk V n V1 28 → Hid (V.cell? ⟨n, 2, none⟩ = some (.slice ta c.texts.length tc) ∧ V.cell? ⟨n, 3, none⟩ = some (.slice ra c.reals.length rc)) := fun V hV => Lib.hid ⟨(HF0 V hV).out.2.2.1, (HF0 V hV).out.2.2.2.1⟩
                  have HQ := hQof W7 hS7.k1
                  have HC0 := Lib.hid (cloneS_any (H.out.ts.ext hS7.ex) (by have := HBig.out.t; omega))
                  have HS7 := Lib.hid hS7; have Hll := Lib.hid hll
                  clear hX7 hS7 hS HS hll
                  refine region_U_plain (n := 9) (fun V => V.cell? ⟨n, 2, none⟩ = some (.slice ta c.texts.length tc) ∧ V.cell? ⟨n, 3, none⟩ = some (.slice ra c.reals.length rc)) 7 (by kernel_rfl) ?_
                  rw [hW7]
                  clear hW7
                  refine anyU_quiet (a2 := ?au8_0) 0 rfl rfl rfl (by kernel_rfl) (by kernel_rfl) (by kernel_rfl) (by kernel_rfl) (by kernel_rfl) (by kernel_rfl) (fun _ _ _ _ h => h) HQ.out ?hu8_0 ?ku8_0
                  case hu8_0 => intro W hW K hK; obtain ⟨q0, q1⟩ := hW; go_simp; exact hK
                  refine anyU_quiet (a2 := ?au8_1) 1 rfl rfl rfl (by kernel_rfl) (by kernel_rfl) (by kernel_rfl) (by kernel_rfl) (by kernel_rfl) (by kernel_rfl) (fun _ _ _ _ h => h) HQ.out ?hu8_1 ?ku8_1
                  case hu8_1 => intro W hW K hK; obtain ⟨q0, q1⟩ := hW; go_simp; exact hK
                  refine anyU_quiet (a2 := ?au8_3) 3 rfl rfl rfl (by kernel_rfl) (by kernel_rfl) (by kernel_rfl) (by kernel_rfl) (by kernel_rfl) (by kernel_rfl) (fun _ _ _ _ h => h) HQ.out ?hu8_3 ?ku8_3
                  case hu8_3 => intro W hW K hK; obtain ⟨q0, q1⟩ := hW; go_simp; exact hK
                  refine anyU_quiet (a2 := ?au8_4) 4 rfl rfl rfl (by kernel_rfl) (by kernel_rfl) (by kernel_rfl) (by kernel_rfl) (by kernel_rfl) (by kernel_rfl) (fun _ _ _ _ h => h) HQ.out ?hu8_4 ?ku8_4
                  case hu8_4 => intro W hW K hK; obtain ⟨q0, q1⟩ := hW; go_simp; exact hK
                  refine anyU_only 2 rfl (by kernel_rfl) ?_
                  gi_wp2_with fail
                  refine (callsIn_WF HC0.out).mono ?_
                  rintro e w8 ⟨v8, rfl, ho8, hx8⟩
                  obtain ⟨ta5, tc5, rfl⟩ := own_slice ho8
                  have hS8 := HS7.out.ext hx8
                  have HQ8 := hQof w8 hS8.k1
                  have HO8 := Lib.hid (row_base (base' := w.heap.size) ho8 HS7.out.ex.size)
                  have HC1 := Lib.hid (cloneL_any (H.out.rs.ext hS8.ex) (by have := HBig.out.r; omega))
                  have HS8 := Lib.hid hS8
                  clear ho8 hx8 hS8 HQ HC0
                  gi_wp2
                  refine And.intro (.inr HQ8.out) ?_
                  refine anyU_quiet (a2 := ?au9_6) 6 rfl rfl rfl (by kernel_rfl) (by kernel_rfl) (by kernel_rfl) (by kernel_rfl) (by kernel_rfl) (by kernel_rfl) (fun _ _ _ _ h => h) HQ8.out ?hu9_6 ?ku9_6
                  case hu9_6 => intro W hW K hK; obtain ⟨q0, q1⟩ := hW; go_simp; exact hK
                  refine anyU_only 5 rfl (by kernel_rfl) ?_
                  gi_wp2_with fail
                  refine (callsIn_WF HC1.out).mono ?_
                  rintro e w9 ⟨v9, rfl, ho9, hx9⟩
                  obtain ⟨ra5, rc5, rfl⟩ := own_slice ho9
                  have hS9 := HS8.out.ext hx9
                  have HQ9 := hQof w9 hS9.k1
                  have hT9 := own_kept HO8.out hx9
                  have hR9 := row_base (base' := w.heap.size) ho9 HS8.out.ex.size
                  have hwo : w.heap.size ≤ bt + 1 := by rw [Hn.out]; omega
                  obtain ⟨W10, hW10⟩ : ∃ W10, w9.setCell ⟨bt + 1, 2, none⟩ (.slice ta5 c.texts.length tc5) = W10 := ⟨_, rfl⟩
                  obtain ⟨W11, hW11⟩ : ∃ W11, W10.setCell ⟨bt + 1, 3, none⟩ (.slice ra5 c.reals.length rc5) = W11 := ⟨_, rfl⟩
                  have hK10 : Blk W10 (bt + 1) #[.slice va3 dl vc3, .slice al3 c.labels.length cl3, .slice ta5 c.texts.length tc5, .slice none 0 0, .slice ia1 k ic1] 28 := by rw [← hW10]; exact hS9.ko.set 2 _
                  have hK11 : Blk W11 (bt + 1) #[.slice va3 dl vc3, .slice al3 c.labels.length cl3, .slice ta5 c.texts.length tc5, .slice ra5 c.reals.length rc5, .slice ia1 k ic1] 28 := by rw [← hW11]; exact hK10.set 3 _
                  have q10 : w9.cell? ⟨bt + 1, 2, none⟩ = some (.slice none 0 0) := (hS9.ko.cell 2).trans rfl
                  have f10 : w9.frozen? ⟨bt + 1, 2, none⟩ = false := hS9.ko.frozen _
                  have q11 : W10.cell? ⟨bt + 1, 3, none⟩ = some (.slice none 0 0) := (hK10.cell 3).trans rfl
                  have f11 : W10.frozen? ⟨bt + 1, 3, none⟩ = false := hK10.frozen _
                  have s2 : ∀ {e : TypeId} {size m : Nat} {v : Value} {l : List Value}, e ≠ 28 → w9.ownsRow w.heap.size e size v m l → W11.ownsRow w.heap.size e size v m l := by
                    intro e size m v l he h
                    rw [← hW11, ← hW10]
                    exact set_row (set_row h hS9.ko he.symm 2 _) (by rw [hW10]; exact hK10) he.symm 3 _
                  have hFin : Ex w W11 ∧ Blk W11 (n + 1) nil5 28 ∧ W11.ownsRow w.heap.size 50 11 (.slice va3 dl vc3) ds.length (ds.flatMap encD) ∧ (∀ x ∈ ds, OwnDe W11 w.heap.size x) ∧ W11.ownsRow w.heap.size 90 2 (.slice al3 c.labels.length cl3) (c.labels.map (stripL c)).length ((c.labels.map (stripL c)).flatMap encL) ∧
                      W11.ownsRow w.heap.size 9 1 (.slice ta5 c.texts.length tc5) c.texts.length (c.texts.flatMap encS) ∧ W11.ownsRow w.heap.size 94 2 (.slice ra5 c.reals.length rc5) c.reals.length (c.reals.flatMap encL) ∧ W11.ownsRow w.heap.size 82 3 (.slice ia1 k ic1) (stripI c).length ((stripI c).flatMap encN) := by
                    refine ⟨?_, ?_, s2 (by decide) hS9.rDs, fun x hx => ⟨s2 (by decide) (hS9.rDe x hx).chain, s2 (by decide) (hS9.rDe x hx).up, s2 (by decide) (hS9.rDe x hx).virts⟩, s2 (by decide) hS9.rLs, s2 (by decide) hT9, s2 (by decide) hR9, s2 (by decide) hS9.rIs⟩
                    · rw [← hW11, ← hW10]; exact (hS9.ex.setCell (.inr hwo) _).setCell (.inr hwo) _
                    · rw [← hW11, ← hW10]
                      have hne : n + 1 ≠ bt + 1 := by omega
                      exact (hS9.kC.far hne _).far hne _
                  have HW10 := Lib.hid hW10; have HW11 := Lib.hid hW11; have HK11 := Lib.hid hK11; have HFin := Lib.hid hFin
                  clear HC1 HQ8 HO8 HS7 HS8 ho9 hx9 hS9 hT9 hR9 hwo hW10 hW11 hK10 hK11 s2 hFin hQof
                  gi_wp2
                  refine And.intro (.inr HQ9.out) ?_
                  clear HQ9
                  refine anyU_only 7 rfl (by kernel_rfl) ?_
                  gi_wp2
                  rw [HW10.out]
                  refine And.intro (.inl (by kernel_rfl)) ?_
                  refine anyU_only 8 rfl (by kernel_rfl) ?_
                  gi_wp2
                  refine And.intro (.inl (by kernel_rfl)) ?_
                  refine anyU_only 9 rfl (by kernel_rfl) ?_
                  gi_wp2
                  rw [HW11.out]
                  refine And.intro (.inl (by kernel_rfl)) ?_
                  refine anyU_done (by kernel_rfl) ?_ _
                  clear q10 f10 q11 f11
                  have p0 : W11.cell? ⟨bt + 1, 0, none⟩ = some (.slice va3 dl vc3) := (HK11.out.cell 0).trans rfl
                  have p1 : W11.cell? ⟨bt + 1, 1, none⟩ = some (.slice al3 c.labels.length cl3) := (HK11.out.cell 1).trans rfl
                  have p2 : W11.cell? ⟨bt + 1, 2, none⟩ = some (.slice ta5 c.texts.length tc5) := (HK11.out.cell 2).trans rfl
                  have p3 : W11.cell? ⟨bt + 1, 3, none⟩ = some (.slice ra5 c.reals.length rc5) := (HK11.out.cell 3).trans rfl
                  have p4 : W11.cell? ⟨bt + 1, 4, none⟩ = some (.slice ia1 k ic1) := (HK11.out.cell 4).trans rfl
                  have cc1 : W11.cell? ⟨n + 1, 0, none⟩ = some (.slice none 0 0) := (HFin.out.2.1.cell 0).trans rfl
                  have cf1 : W11.frozen? ⟨n + 1, 0, none⟩ = false := HFin.out.2.1.frozen _
                  obtain ⟨X1, hX1e⟩ : ∃ W, W11.setCell ⟨n + 1, 0, none⟩ (.slice va3 dl vc3) = W := ⟨_, rfl⟩
                  have hXB1 : Blk X1 (n + 1) #[.slice va3 dl vc3, .slice none 0 0, .slice none 0 0, .slice none 0 0, .slice none 0 0] 28 := by rw [← hX1e]; exact HFin.out.2.1.set 0 _
                  have cc2 : X1.cell? ⟨n + 1, 1, none⟩ = some (.slice none 0 0) := (hXB1.cell 1).trans rfl
                  have cf2 : X1.frozen? ⟨n + 1, 1, none⟩ = false := hXB1.frozen _
                  obtain ⟨X2, hX2e⟩ : ∃ W, X1.setCell ⟨n + 1, 1, none⟩ (.slice al3 c.labels.length cl3) = W := ⟨_, rfl⟩
                  have hXB2 : Blk X2 (n + 1) #[.slice va3 dl vc3, .slice al3 c.labels.length cl3, .slice none 0 0, .slice none 0 0, .slice none 0 0] 28 := by rw [← hX2e]; exact hXB1.set 1 _
                  have cc3 : X2.cell? ⟨n + 1, 2, none⟩ = some (.slice none 0 0) := (hXB2.cell 2).trans rfl
                  have cf3 : X2.frozen? ⟨n + 1, 2, none⟩ = false := hXB2.frozen _
                  obtain ⟨X3, hX3e⟩ : ∃ W, X2.setCell ⟨n + 1, 2, none⟩ (.slice ta5 c.texts.length tc5) = W := ⟨_, rfl⟩
                  have hXB3 : Blk X3 (n + 1) #[.slice va3 dl vc3, .slice al3 c.labels.length cl3, .slice ta5 c.texts.length tc5, .slice none 0 0, .slice none 0 0] 28 := by rw [← hX3e]; exact hXB2.set 2 _
                  have cc4 : X3.cell? ⟨n + 1, 3, none⟩ = some (.slice none 0 0) := (hXB3.cell 3).trans rfl
                  have cf4 : X3.frozen? ⟨n + 1, 3, none⟩ = false := hXB3.frozen _
                  obtain ⟨X4, hX4e⟩ : ∃ W, X3.setCell ⟨n + 1, 3, none⟩ (.slice ra5 c.reals.length rc5) = W := ⟨_, rfl⟩
                  have hXB4 : Blk X4 (n + 1) #[.slice va3 dl vc3, .slice al3 c.labels.length cl3, .slice ta5 c.texts.length tc5, .slice ra5 c.reals.length rc5, .slice none 0 0] 28 := by rw [← hX4e]; exact hXB3.set 3 _
                  have cc5 : X4.cell? ⟨n + 1, 4, none⟩ = some (.slice none 0 0) := (hXB4.cell 4).trans rfl
                  have cf5 : X4.frozen? ⟨n + 1, 4, none⟩ = false := hXB4.frozen _
                  obtain ⟨X5, hX5e⟩ : ∃ W, X4.setCell ⟨n + 1, 4, none⟩ (.slice ia1 k ic1) = W := ⟨_, rfl⟩
                  have hXB5 : Blk X5 (n + 1) #[.slice va3 dl vc3, .slice al3 c.labels.length cl3, .slice ta5 c.texts.length tc5, .slice ra5 c.reals.length rc5, .slice ia1 k ic1] 28 := by rw [← hX5e]; exact hXB4.set 4 _
                  have HL5 := Lib.hid hXB5
                  have s5 : ∀ {e : TypeId} {size m : Nat} {v : Value} {l : List Value}, e ≠ 28 → W11.ownsRow w.heap.size e size v m l → X5.ownsRow w.heap.size e size v m l := by
                    intro e size m v l he h
                    have hC := HFin.out.2.1
                    have g1 : X1.ownsRow w.heap.size e size v m l := by rw [← hX1e]; exact set_row h hC he.symm _ _
                    have g2 : X2.ownsRow w.heap.size e size v m l := by rw [← hX2e]; exact set_row g1 hXB1 he.symm _ _
                    have g3 : X3.ownsRow w.heap.size e size v m l := by rw [← hX3e]; exact set_row g2 hXB2 he.symm _ _
                    have g4 : X4.ownsRow w.heap.size e size v m l := by rw [← hX4e]; exact set_row g3 hXB3 he.symm _ _
                    rw [← hX5e]; exact set_row g4 hXB4 he.symm _ _
                  have hwn : w.heap.size ≤ n + 1 := by rw [Hn.out]; omega
                  have hxf : Ex w X5 := by
                    rw [← hX5e, ← hX4e, ← hX3e, ← hX2e, ← hX1e]
                    exact ((((HFin.out.1.setCell (.inr hwn) _).setCell (.inr hwn) _).setCell (.inr hwn) _).setCell (.inr hwn) _).setCell (.inr hwn) _
                  obtain ⟨-, -, r1, r2, r3, r4, r5, r6⟩ := HFin.out
                  have hrd : RdCo X5 (.slice va3 dl vc3) (.slice al3 c.labels.length cl3) (.slice ta5 c.texts.length tc5) (.slice ra5 c.reals.length rc5) (.slice ia1 k ic1) (stripC c) ds :=
                    ⟨own_rd encD_len (s5 (by decide) r1), fun x hx => OwnDe.rd ⟨s5 (by decide) (r2 x hx).chain, s5 (by decide) (r2 x hx).up, s5 (by decide) (r2 x hx).virts⟩, Hds.out, own_rd encL_len (s5 (by decide) r3), own_rd encS_len (s5 (by decide) r4), own_rd encL_len (s5 (by decide) r5), own_rd encN_len (s5 (by decide) r6)⟩
                  have HRd := Lib.hid hrd; have HXf := Lib.hid hxf
                  clear hXB1 hXB2 hXB3 hXB4 hXB5 s5 hwn hxf r1 r2 r3 r4 r5 r6 hrd
                  go_wp2_with fail
                  clear p0 p1 p2 p3 p4 cc1 cc2 cc3 cc4 cc5 cf1 cf2 cf3 cf4 cf5 hX1e hX2e hX3e hX4e hX5e
                  have z0 : X5.cell? ⟨n + 1, 0, none⟩ = some (.slice va3 dl vc3) := (HL5.out.cell 0).trans rfl
                  have z1 : X5.cell? ⟨n + 1, 1, none⟩ = some (.slice al3 c.labels.length cl3) := (HL5.out.cell 1).trans rfl
                  have z2 : X5.cell? ⟨n + 1, 2, none⟩ = some (.slice ta5 c.texts.length tc5) := (HL5.out.cell 2).trans rfl
                  have z3 : X5.cell? ⟨n + 1, 3, none⟩ = some (.slice ra5 c.reals.length rc5) := (HL5.out.cell 3).trans rfl
                  have z4 : X5.cell? ⟨n + 1, 4, none⟩ = some (.slice ia1 k ic1) := (HL5.out.cell 4).trans rfl
                  refine bodyPost_ret (v := .tuple #[codeV (.slice va3 dl vc3) (.slice al3 c.labels.length cl3) (.slice ta5 c.texts.length tc5) (.slice ra5 c.reals.length rc5) (.slice ia1 k ic1), .int .i64 0]) ?_ rfl ?_
                  · unfold codeV
                    simp [results, Tryz.results14, go_sem, z0, z1, z2, z3, z4]
                  rw [← HM.out]
                  unfold StripR
                  rw [if_pos HG.out, if_neg (by rw [HLast.out]; exact H53.out)]
                  exact ⟨_, _, _, _, _, _, rfl, HRd.out, HXf.out⟩
end Go.Proofs.YtlaepkmnbbgbcaaGreatDoor
