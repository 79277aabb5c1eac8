/- awake. -/
import Derived.Test.YtikigppfnhilhaaLI
namespace Go.Proofs.Ytikigppfnhilhaa
open Go.RowKit Go.Instr
set_option linter.unusedVariables false
set_option linter.unusedSimpArgs false

set_option maxRecDepth 100000 in
set_option maxHeartbeats 8000000 in
theorem awake_any (w : World) : Calls Try.prog 10 #[] w fun e w' => e = .returned (.bool true) ∧ Ext w w' := by
  have HN := Lib.hid (New_good 10 10 (by decide) (by decide) (by decide) (by decide) w)
  go_enter Try.func10, Try.ntmps10
  go_wp2_with fail
  refine HN.out.mono ?_
  rintro e w1 ⟨x, rfl, hrep, hlog, hx⟩
  obtain ⟨hp, hhp⟩ : ∃ hp, x.hp = hp := ⟨_, rfl⟩
  rw [hhp]
  have H1 : Heap w w1 hp 10 10 x := ⟨hrep, hhp, by rw [hlog]; exact LInv.new _ _, congrArg LH.Y hlog, congrArg LH.O hlog, hx⟩
  have C1 := H1.allocL 1 2
  rw [hlog, aw_alloc1] at C1
  have HC1 := Lib.hid C1
  clear hrep hlog hx hhp HN C1 H1
  go_wp2_with fail
  refine HC1.out.mono ?_
  rintro e w2 ⟨rfl, ⟨x2, h2, l2⟩, -⟩
  have C2 := h2.allocL 2 3
  rw [l2, aw_alloc2] at C2
  have HC2 := Lib.hid C2
  clear C2 h2 l2 HC1
  go_wp2_with fail
  refine HC2.out.mono ?_
  rintro e w3 ⟨rfl, ⟨x3, h3, l3⟩, -⟩
  have C3 := h3.allocL 3 4
  rw [l3, aw_alloc3] at C3
  have HC3 := Lib.hid C3
  clear C3 h3 l3 HC2
  go_wp2_with fail
  refine HC3.out.mono ?_
  rintro e w4 ⟨rfl, ⟨x4, h4, l4⟩, -⟩
  have C4 := h4.storeL 1 0 awU
  rw [l4, aw_store] at C4
  unfold Wd.val Wd.cells awU at C4
  have HC4 := Lib.hid C4
  clear C4 h4 l4 HC3
  go_wp2_with fail
  refine HC4.out.mono ?_
  rintro e w5 ⟨rfl, ⟨x5, h5, l5⟩, -⟩
  have H5 := Lib.hid h5; have L5 := Lib.hid l5
  clear h5 l5 HC4
  go_wp2_with fail
  obtain ⟨w6, hw6⟩ : ∃ w6, w5.alloc (.cells #[.int .i64 1, .int .i64 1, .int .i64 0, .string ⟨#[]⟩, .int .i64 0, .int .i64 0] 33) = w6 := ⟨_, rfl⟩
  have hx6 : Ext w5 w6 := by rw [← hw6]; exact (Ext.refl _).alloc _
  have hb6 : Blk w6 w5.heap.size #[.int .i64 1, .int .i64 1, .int .i64 0, .string ⟨#[]⟩, .int .i64 0, .int .i64 0] 33 := by rw [← hw6]; exact Blk.new _ _ _
  rw [hw6]
  have hr6 : RdW w6 (.slice (some ⟨w5.heap.size, 0, none⟩) [awR].length 1) [awR] := by
    refine ⟨_, _, rfl, fun h => (by cases h), fun ad had j u hu => ?_⟩
    injection had with had; subst had
    rw [show (⟨w5.heap.size, 0, none⟩ : Addr).add j = ⟨w5.heap.size, j, none⟩ from by unfold Addr.add; split <;> simp_all, hb6.cell j]
    simpa [flatL, Wd.cells, awR] using hu
  have h6 := H5.out.later hx6
  have C6 := h6.minor hr6 (fun _ k hk hf => by
    have e : w5.heap.size = k := by simpa [Value.ownBlock] using hk
    have := H5.out.rep.fp_lt k hf; omega) (by simp)
  rw [show x5.log = aw3 from L5.out, aw_minor] at C6
  have HC6 := Lib.hid C6
  clear C6 h6 hr6 hb6 hx6 hw6
  refine HC6.out.mono ?_
  rintro e w7 ⟨v', rfl, ho7, ⟨x7, h7, l7⟩, -⟩
  obtain ⟨g, cp, rfl⟩ := ownsRow_succ (k := 0) ho7
  have hr7 := rdW_of_own (ws := [⟨1, 11, 0, ⟨#[]⟩, 0, 0⟩]) ho7
  have Hr7 := Lib.hid hr7
  have C7 := h7.loadL 11 0
  rw [show x7.log = aw4 from l7, aw_load] at C7
  unfold Wd.val Wd.cells at C7
  have HC7 := Lib.hid C7
  have H7 := Lib.hid h7; have L7 := Lib.hid l7
  clear C7 hr7 ho7 h7 l7 HC6
  go_wp2_with fail
  refine HC7.out.mono ?_
  rintro e w8 ⟨rfl, hx8⟩
  have H8 := Lib.hid (H7.out.later hx8)
  have Hr8 := Lib.hid (Hr7.out.ext hx8)
  clear hx8 HC7
  go_wp2_with fail
  obtain ⟨w9, hw9⟩ : ∃ w9, w8.alloc (.cells #[.int .i64 1, .int .i64 14, .int .i64 7, .string ⟨#[]⟩, .int .i64 0, .int .i64 0] 33) = w9 := ⟨_, rfl⟩
  have hx9 : Ext w8 w9 := by rw [← hw9]; exact (Ext.refl _).alloc _
  have hb9 : Blk w9 w8.heap.size #[.int .i64 1, .int .i64 14, .int .i64 7, .string ⟨#[]⟩, .int .i64 0, .int .i64 0] 33 := by rw [← hw9]; exact Blk.new _ _ _
  rw [hw9]
  have h9 := H8.out.later hx9
  have C9 := h9.free
  rw [show x7.log = aw4 from L7.out] at C9
  rw [show (10 : Int) - bused aw4.yb = 10 from rfl, show (10 : Int) - bused aw4.ob = 3 from rfl] at C9
  have HC9 := Lib.hid C9
  have Hb9 := Lib.hid hb9
  have HX9 := Lib.hid h9.ext
  have Hr9 := Lib.hid (Hr8.out.ext hx9)
  generalize hq : w8.heap.size = q at Hb9 ⊢
  clear C9 h9 hb9 hx9 hw9 hq
  refine HC9.out.mono ?_
  rintro e w10 ⟨rfl, hx10⟩
  have hb := hx10.blk Hb9.out id
  have c0 : w10.cell? ⟨q, 0, none⟩ = some (.int .i64 1) := (hb.cell 0).trans rfl
  have c1 : w10.cell? ⟨q, 1, none⟩ = some (.int .i64 14) := (hb.cell 1).trans rfl
  have c2 : w10.cell? ⟨q, 2, none⟩ = some (.int .i64 7) := (hb.cell 2).trans rfl
  have c3 : w10.cell? ⟨q, 3, none⟩ = some (.string ⟨#[]⟩) := (hb.cell 3).trans rfl
  have c4 : w10.cell? ⟨q, 4, none⟩ = some (.int .i64 0) := (hb.cell 4).trans rfl
  have c5 : w10.cell? ⟨q, 5, none⟩ = some (.int .i64 0) := (hb.cell 5).trans rfl
  have g1 : w10.cell? ⟨g, 1, none⟩ = some (.int .i64 11) := by
    have := (Hr9.out.ext hx10).word (k := 0) (u := ⟨1, 11, 0, ⟨#[]⟩, 0, 0⟩) rfl 1 (by omega)
    simpa [Addr.add, Wd.cells] using this
  have HX10 := Lib.hid (HX9.out.trans hx10)
  clear hb hx10 HC9 Hb9 HX9
  go_wp2
  go_ret
  exact ⟨rfl, HX10.out⟩
end Go.Proofs.Ytikigppfnhilhaa
