/- Stores, loads and room, without places; what awake does. awake. -/
import Derived.Test.YtikigppfnhilhaaGPD28
/- Stores, loads and room, without places; what awake does. -/
namespace Go.Proofs.Ytikigppfnhilhaa
open Go.RowKit Go.Instr
set_option linter.unusedVariables false
set_option linter.unusedSimpArgs false

def setB (k : Int) (i : Nat) (u : Wd) (b : Bk) : Bk := if b.at_ = k then { b with ws := b.ws.set i u } else b
def LH.storeE (h : LH) (k i : Int) (u : Wd) : Int :=
  match h.find k with
  | none => 5
  | some b => if 0 ≤ i ∧ i < b.ws.length then (if refW u = 0 then 0 else match h.find (refW u) with | none => 1 | some _ => 0) else 3
def LH.marks (h : LH) (k : Int) (u : Wd) : Bool := decide (refW u ≠ 0) && decide (¬ k ≤ h.Y) && (match h.find (refW u) with | none => false | some t => decide (t.at_ ≤ h.Y))
def LH.store (h : LH) (k i : Int) (u : Wd) : LH × Int :=
  if h.storeE k i u = 0 then ({ h with yb := h.yb.map (setB k i.toNat u), ob := h.ob.map (setB k i.toNat u), R := if h.marks k u then insR k h.R else h.R }, 0) else (h, h.storeE k i u)
theorem log_storeE (x : PH) (k i : Int) (u : Wd) : x.storeE k i u = x.log.storeE k i u := by
  unfold PH.storeE LH.storeE
  rw [log_find, log_find]
  cases x.find k with
  | none => rfl
  | some y => cases x.find (refW u) <;> rfl
theorem log_store {x : PH} (hok : x.Ok) (hps : (x.all.map PB.p).Nodup) (k i : Int) (u : Wd) : (if x.storeE k i u = 0 then x.stored k i u else x).log = (x.log.store k i u).1 ∧ x.storeE k i u = (x.log.store k i u).2 := by
  unfold LH.store
  rw [← log_storeE]
  by_cases he : x.storeE k i u = 0
  · rw [if_pos he, if_pos he]
    refine ⟨?_, he⟩
    cases hf : x.find k with
    | none => unfold PH.storeE at he; rw [hf] at he; simp at he
    | some y =>
      have hy := (PH.find_mem hf).1
      have hk := (PH.find_mem hf).2
      have hset : ∀ z ∈ x.all, (setPB y.p i.toNat u z).b = setB k i.toNat u z.b := fun z hz => by
        unfold setPB setB PB.set
        by_cases e : z.p = y.p
        · have : z = y := inj_of_nodup hps hz hy e
          rw [if_pos e, if_pos (by rw [this]; exact hk)]
        · rw [if_neg e, if_neg fun e2 => e (by rw [hok.at_inj hz hy (by rw [e2, hk])])]
      have hm : x.marks y u = x.log.marks k u := by
        unfold PH.marks LH.marks
        rw [log_find, hk]
        cases x.find (refW u) <;> rfl
      have h1 : ((x.yb.map (setPB y.p i.toNat u)).map PB.b) = (x.yb.map PB.b).map (setB k i.toNat u) := by
        rw [List.map_map, List.map_map]; exact List.map_congr_left fun z hz => hset z (List.mem_append_left _ hz)
      have h2 : ((x.ob.map (setPB y.p i.toNat u)).map PB.b) = (x.ob.map PB.b).map (setB k i.toNat u) := by
        rw [List.map_map, List.map_map]; exact List.map_congr_left fun z hz => hset z (List.mem_append_right _ hz)
      unfold PH.stored
      rw [hf]
      show (⟨x.Y, x.O, (x.yb.map (setPB y.p i.toNat u)).map PB.b, (x.ob.map (setPB y.p i.toNat u)).map PB.b, if x.marks y u then insR k x.R else x.R⟩ : LH) = _
      rw [h1, h2, hm]; rfl
  · rw [if_neg he, if_neg he]
    exact ⟨rfl, rfl⟩
def loadL (f : Option Bk) (i : Int) : Wd × Int := match f with | none => (wd0, 5) | some b => if 0 ≤ i ∧ i < b.ws.length then (b.ws.getD i.toNat wd0, 0) else (wd0, 3)
theorem log_load (x : PH) (k i : Int) : loadR (x.find k) i = loadL (x.log.find k) i := by
  rw [log_find]; cases x.find k <;> rfl

theorem Heap.storeL {W0 w : World} {hp : Nat} {y o : Int} {x : PH} (h : Heap W0 w hp y o x) (k i : Int) (u : Wd) :
    Calls Try.prog 19 #[.pointer (some ⟨hp, 0, none⟩), .int .i64 k, .int .i64 i, u.val] w fun e w' => e = .returned (.int .i64 (x.log.store k i u).2) ∧ (∃ x', Heap W0 w' hp y o x' ∧ x'.log = (x.log.store k i u).1) ∧ Keeps x.fp w w' := by
  refine (h.store k i u).mono ?_
  rintro e w' ⟨rfl, h1, h2⟩
  have h3 := log_store h.rep.ok h.rep.ps k i u
  exact ⟨by rw [h3.2], ⟨_, h1, h3.1⟩, h2⟩
theorem Heap.allocL {W0 w : World} {hp : Nat} {y o : Int} {x : PH} (h : Heap W0 w hp y o x) (kind size : Int) :
    Calls Try.prog 34 #[.pointer (some ⟨hp, 0, none⟩), .int .i64 kind, .int .i64 size] w fun e w' => e = .returned (.tuple #[.int .i64 (x.log.alloc kind size).2.1, .int .i64 (x.log.alloc kind size).2.2]) ∧ (∃ x', Heap W0 w' hp y o x' ∧ x'.log = (x.log.alloc kind size).1) ∧ Keeps x.fp w w' := by
  rw [← h.hp_]
  refine (Alloc_any h.rep kind size).mono ?_
  rintro e w' ⟨rfl, x', h1, h2, h3, h4, h5⟩
  refine ⟨rfl, ⟨x', ⟨h1, h2, by rw [h3]; exact h.inv.alloc kind size, ?_, ?_, h.frame h4⟩, h3⟩, h4⟩
  · have : x'.log.Y = x.log.Y := by rw [h3, (alloc_YO _ _ _).1]
    exact this.trans h.Y
  · have : x'.log.O = x.log.O := by rw [h3, (alloc_YO _ _ _).2]
    exact this.trans h.O
theorem Heap.loadL {W0 w : World} {hp : Nat} {y o : Int} {x : PH} (h : Heap W0 w hp y o x) (k i : Int) :
    Calls Try.prog 20 #[.pointer (some ⟨hp, 0, none⟩), .int .i64 k, .int .i64 i] w fun e w' => e = .returned (.tuple #[(Go.Proofs.Ytikigppfnhilhaa.loadL (x.log.find k) i).1.val, .int .i64 (Go.Proofs.Ytikigppfnhilhaa.loadL (x.log.find k) i).2]) ∧ Ext w w' := by
  rw [← h.hp_, ← log_load]
  exact Load_any h.rep k i
theorem Heap.free {W0 w : World} {hp : Nat} {y o : Int} {x : PH} (h : Heap W0 w hp y o x) :
    Calls Try.prog 23 #[.pointer (some ⟨hp, 0, none⟩)] w fun e w' => e = .returned (.tuple #[.int .i64 (y - bused x.log.yb), .int .i64 (o - bused x.log.ob)]) ∧ Ext w w' := by
  have ok := h.rep.ok
  rw [← h.hp_]
  refine (Free_any h.rep ok.Y0 ok.Y1 ok.O0 ok.O1 ok.yu0 (Int.le_trans ok.yu1 ok.Y1) ok.ou0 (Int.le_trans ok.ou1 ok.O1)).mono ?_
  rintro e w' ⟨rfl, n, rfl⟩
  refine ⟨?_, (Ext.refl _).drewN n⟩
  rw [h.Y, h.O, ok.yu, ok.ou]; rfl

/-! ### awake, without places -/
def awU : Wd := ⟨1, 4, 7, ⟨#[]⟩, 0, 0⟩
def awR : Wd := ⟨1, 1, 0, ⟨#[]⟩, 0, 0⟩
def aw1 : LH := ⟨10, 10, [⟨1, 1, [wd0, wd0]⟩], [], []⟩
def aw2 : LH := ⟨10, 10, [⟨1, 1, [wd0, wd0]⟩, ⟨4, 2, [wd0, wd0, wd0]⟩], [], []⟩
def aw3 : LH := ⟨10, 10, [⟨1, 1, [awU, wd0]⟩, ⟨4, 2, [wd0, wd0, wd0]⟩], [], []⟩
def aw4 : LH := ⟨10, 10, [], [⟨11, 1, [⟨1, 14, 7, ⟨#[]⟩, 0, 0⟩, wd0]⟩, ⟨14, 2, [wd0, wd0, wd0]⟩], []⟩
theorem aw_alloc1 : LH.alloc ⟨10, 10, [], [], []⟩ 1 2 = (aw1, 1, 0) := rfl
theorem aw_alloc2 : aw1.alloc 2 3 = (aw2, 4, 0) := rfl
theorem aw_alloc3 : aw2.alloc 3 4 = (aw2, 0, 2) := rfl
theorem aw_store : aw2.store 1 0 awU = (aw3, 0) := rfl
theorem aw_minor : aw3.minor [awR] = (aw4, [⟨1, 11, 0, ⟨#[]⟩, 0, 0⟩], 0) := by
  have k1 : aw3.keep aw3.isY ([awR] ++ aw3.remW) ⟨1, 1, [awU, wd0]⟩ = true := LH.keep_iff.2 (.root (u := awR) (by simp) rfl rfl)
  have k2 : aw3.keep aw3.isY ([awR] ++ aw3.remW) ⟨4, 2, [wd0, wd0, wd0]⟩ = true := LH.keep_iff.2 (.step (u := awU) (LH.keep_iff.1 k1) (by simp) rfl rfl)
  have hl : aw3.liveY [awR] = aw3.yb := by
    unfold LH.liveY
    rw [List.filter_eq_self]
    intro b hb
    simp only [aw3, List.mem_cons, List.not_mem_nil, or_false] at hb
    rcases hb with rfl | rfl
    · exact k1
    · exact k2
  unfold LH.minor LH.minorF
  rw [hl]
  rfl
theorem aw_load : loadL (aw4.find 11) 0 = (⟨1, 14, 7, ⟨#[]⟩, 0, 0⟩, 0) := rfl
end Go.Proofs.Ytikigppfnhilhaa
/- awake. -/
namespace Go.Proofs.Ytikigppfnhilhaa
open Go.RowKit Go.Instr
set_option linter.unusedVariables false
set_option linter.unusedSimpArgs false

set_option maxRecDepth 100000 in
set_option maxHeartbeats 8000000 in
theorem awake_any (w : World) : Calls Try.prog 10 #[] w fun e w' => e = .returned (.bool true) ∧ Ext w w' := by
  have HN := Lib.hid (New_good 10 10 (by decide) (by decide) (by decide) (by decide) w)
  go_enter Try.func10, Try.ntmps10
  go_wp2_with fail
  refine HN.out.mono ?_
  rintro e w1 ⟨x, rfl, hrep, hlog, hx⟩
  obtain ⟨hp, hhp⟩ : ∃ hp, x.hp = hp := ⟨_, rfl⟩
  rw [hhp]
  have H1 : Heap w w1 hp 10 10 x := ⟨hrep, hhp, by rw [hlog]; exact LInv.new _ _, congrArg LH.Y hlog, congrArg LH.O hlog, hx⟩
  have C1 := H1.allocL 1 2
  rw [hlog, aw_alloc1] at C1
  have HC1 := Lib.hid C1
  clear hrep hlog hx hhp HN C1 H1
  go_wp2_with fail
  refine HC1.out.mono ?_
  rintro e w2 ⟨rfl, ⟨x2, h2, l2⟩, -⟩
  have C2 := h2.allocL 2 3
  rw [l2, aw_alloc2] at C2
  have HC2 := Lib.hid C2
  clear C2 h2 l2 HC1
  go_wp2_with fail
  refine HC2.out.mono ?_
  rintro e w3 ⟨rfl, ⟨x3, h3, l3⟩, -⟩
  have C3 := h3.allocL 3 4
  rw [l3, aw_alloc3] at C3
  have HC3 := Lib.hid C3
  clear C3 h3 l3 HC2
  go_wp2_with fail
  refine HC3.out.mono ?_
  rintro e w4 ⟨rfl, ⟨x4, h4, l4⟩, -⟩
  have C4 := h4.storeL 1 0 awU
  rw [l4, aw_store] at C4
  unfold Wd.val Wd.cells awU at C4
  have HC4 := Lib.hid C4
  clear C4 h4 l4 HC3
  go_wp2_with fail
  refine HC4.out.mono ?_
  rintro e w5 ⟨rfl, ⟨x5, h5, l5⟩, -⟩
  have H5 := Lib.hid h5; have L5 := Lib.hid l5
  clear h5 l5 HC4
  go_wp2_with fail
  obtain ⟨w6, hw6⟩ : ∃ w6, w5.alloc (.cells #[.int .i64 1, .int .i64 1, .int .i64 0, .string ⟨#[]⟩, .int .i64 0, .int .i64 0] 33) = w6 := ⟨_, rfl⟩
  have hx6 : Ext w5 w6 := by rw [← hw6]; exact (Ext.refl _).alloc _
  have hb6 : Blk w6 w5.heap.size #[.int .i64 1, .int .i64 1, .int .i64 0, .string ⟨#[]⟩, .int .i64 0, .int .i64 0] 33 := by rw [← hw6]; exact Blk.new _ _ _
  rw [hw6]
  have hr6 : RdW w6 (.slice (some ⟨w5.heap.size, 0, none⟩) [awR].length 1) [awR] := by
    refine ⟨_, _, rfl, fun h => (by cases h), fun ad had j u hu => ?_⟩
    injection had with had; subst had
    rw [show (⟨w5.heap.size, 0, none⟩ : Addr).add j = ⟨w5.heap.size, j, none⟩ from by unfold Addr.add; split <;> simp_all, hb6.cell j]
    simpa [flatL, Wd.cells, awR] using hu
  have h6 := H5.out.later hx6
  have C6 := h6.minor hr6 (fun _ k hk hf => by
    have e : w5.heap.size = k := by simpa [Value.ownBlock] using hk
    have := H5.out.rep.fp_lt k hf; omega) (by simp)
  rw [show x5.log = aw3 from L5.out, aw_minor] at C6
  have HC6 := Lib.hid C6
  clear C6 h6 hr6 hb6 hx6 hw6
  refine HC6.out.mono ?_
  rintro e w7 ⟨v', rfl, ho7, ⟨x7, h7, l7⟩, -⟩
  obtain ⟨g, cp, rfl⟩ := ownsRow_succ (k := 0) ho7
  have hr7 := rdW_of_own (ws := [⟨1, 11, 0, ⟨#[]⟩, 0, 0⟩]) ho7
  have Hr7 := Lib.hid hr7
  have C7 := h7.loadL 11 0
  rw [show x7.log = aw4 from l7, aw_load] at C7
  unfold Wd.val Wd.cells at C7
  have HC7 := Lib.hid C7
  have H7 := Lib.hid h7; have L7 := Lib.hid l7
  clear C7 hr7 ho7 h7 l7 HC6
  go_wp2_with fail
  refine HC7.out.mono ?_
  rintro e w8 ⟨rfl, hx8⟩
  have H8 := Lib.hid (H7.out.later hx8)
  have Hr8 := Lib.hid (Hr7.out.ext hx8)
  clear hx8 HC7
  go_wp2_with fail
  obtain ⟨w9, hw9⟩ : ∃ w9, w8.alloc (.cells #[.int .i64 1, .int .i64 14, .int .i64 7, .string ⟨#[]⟩, .int .i64 0, .int .i64 0] 33) = w9 := ⟨_, rfl⟩
  have hx9 : Ext w8 w9 := by rw [← hw9]; exact (Ext.refl _).alloc _
  have hb9 : Blk w9 w8.heap.size #[.int .i64 1, .int .i64 14, .int .i64 7, .string ⟨#[]⟩, .int .i64 0, .int .i64 0] 33 := by rw [← hw9]; exact Blk.new _ _ _
  rw [hw9]
  have h9 := H8.out.later hx9
  have C9 := h9.free
  rw [show x7.log = aw4 from L7.out] at C9
  rw [show (10 : Int) - bused aw4.yb = 10 from rfl, show (10 : Int) - bused aw4.ob = 3 from rfl] at C9
  have HC9 := Lib.hid C9
  have Hb9 := Lib.hid hb9
  have HX9 := Lib.hid h9.ext
  have Hr9 := Lib.hid (Hr8.out.ext hx9)
  generalize hq : w8.heap.size = q at Hb9 ⊢
  clear C9 h9 hb9 hx9 hw9 hq
  refine HC9.out.mono ?_
  rintro e w10 ⟨rfl, hx10⟩
  have hb := hx10.blk Hb9.out id
  have c0 : w10.cell? ⟨q, 0, none⟩ = some (.int .i64 1) := (hb.cell 0).trans rfl
  have c1 : w10.cell? ⟨q, 1, none⟩ = some (.int .i64 14) := (hb.cell 1).trans rfl
  have c2 : w10.cell? ⟨q, 2, none⟩ = some (.int .i64 7) := (hb.cell 2).trans rfl
  have c3 : w10.cell? ⟨q, 3, none⟩ = some (.string ⟨#[]⟩) := (hb.cell 3).trans rfl
  have c4 : w10.cell? ⟨q, 4, none⟩ = some (.int .i64 0) := (hb.cell 4).trans rfl
  have c5 : w10.cell? ⟨q, 5, none⟩ = some (.int .i64 0) := (hb.cell 5).trans rfl
  have g1 : w10.cell? ⟨g, 1, none⟩ = some (.int .i64 11) := by
    have := (Hr9.out.ext hx10).word (k := 0) (u := ⟨1, 11, 0, ⟨#[]⟩, 0, 0⟩) rfl 1 (by omega)
    simpa [Addr.add, Wd.cells] using this
  have HX10 := Lib.hid (HX9.out.trans hx10)
  clear hb hx10 HC9 Hb9 HX9
  go_wp2
  go_ret
  exact ⟨rfl, HX10.out⟩
end Go.Proofs.Ytikigppfnhilhaa
