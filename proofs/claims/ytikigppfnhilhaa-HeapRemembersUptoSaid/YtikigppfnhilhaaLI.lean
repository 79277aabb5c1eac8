/- Stores, loads and room, without places; what awake does. -/
import Derived.Test.YtikigppfnhilhaaLG
namespace Go.Proofs.Ytikigppfnhilhaa
open Go.RowKit Go.Instr
set_option linter.unusedVariables false
set_option linter.unusedSimpArgs false

def setB (k : Int) (i : Nat) (u : Wd) (b : Bk) : Bk := if b.at_ = k then { b with ws := b.ws.set i u } else b
def LH.storeE (h : LH) (k i : Int) (u : Wd) : Int :=
  match h.find k with
  | none => 5
  | some b => if 0 ≤ i ∧ i < b.ws.length then (if refW u = 0 then 0 else match h.find (refW u) with | none => 1 | some _ => 0) else 3
def LH.marks (h : LH) (k : Int) (u : Wd) : Bool := decide (refW u ≠ 0) && decide (¬ k ≤ h.Y) && (match h.find (refW u) with | none => false | some t => decide (t.at_ ≤ h.Y))
def LH.store (h : LH) (k i : Int) (u : Wd) : LH × Int :=
  if h.storeE k i u = 0 then ({ h with yb := h.yb.map (setB k i.toNat u), ob := h.ob.map (setB k i.toNat u), R := if h.marks k u then insR k h.R else h.R }, 0) else (h, h.storeE k i u)
theorem log_storeE (x : PH) (k i : Int) (u : Wd) : x.storeE k i u = x.log.storeE k i u := by
  unfold PH.storeE LH.storeE
  rw [log_find, log_find]
  cases x.find k with
  | none => rfl
  | some y => cases x.find (refW u) <;> rfl
theorem log_store {x : PH} (hok : x.Ok) (hps : (x.all.map PB.p).Nodup) (k i : Int) (u : Wd) : (if x.storeE k i u = 0 then x.stored k i u else x).log = (x.log.store k i u).1 ∧ x.storeE k i u = (x.log.store k i u).2 := by
  unfold LH.store
  rw [← log_storeE]
  by_cases he : x.storeE k i u = 0
  · rw [if_pos he, if_pos he]
    refine ⟨?_, he⟩
    cases hf : x.find k with
    | none => unfold PH.storeE at he; rw [hf] at he; simp at he
    | some y =>
      have hy := (PH.find_mem hf).1
      have hk := (PH.find_mem hf).2
      have hset : ∀ z ∈ x.all, (setPB y.p i.toNat u z).b = setB k i.toNat u z.b := fun z hz => by
        unfold setPB setB PB.set
        by_cases e : z.p = y.p
        · have : z = y := inj_of_nodup hps hz hy e
          rw [if_pos e, if_pos (by rw [this]; exact hk)]
        · rw [if_neg e, if_neg fun e2 => e (by rw [hok.at_inj hz hy (by rw [e2, hk])])]
      have hm : x.marks y u = x.log.marks k u := by
        unfold PH.marks LH.marks
        rw [log_find, hk]
        cases x.find (refW u) <;> rfl
      have h1 : ((x.yb.map (setPB y.p i.toNat u)).map PB.b) = (x.yb.map PB.b).map (setB k i.toNat u) := by
        rw [List.map_map, List.map_map]; exact List.map_congr_left fun z hz => hset z (List.mem_append_left _ hz)
      have h2 : ((x.ob.map (setPB y.p i.toNat u)).map PB.b) = (x.ob.map PB.b).map (setB k i.toNat u) := by
        rw [List.map_map, List.map_map]; exact List.map_congr_left fun z hz => hset z (List.mem_append_right _ hz)
      unfold PH.stored
      rw [hf]
      show (⟨x.Y, x.O, (x.yb.map (setPB y.p i.toNat u)).map PB.b, (x.ob.map (setPB y.p i.toNat u)).map PB.b, if x.marks y u then insR k x.R else x.R⟩ : LH) = _
      rw [h1, h2, hm]; rfl
  · rw [if_neg he, if_neg he]
    exact ⟨rfl, rfl⟩
def loadL (f : Option Bk) (i : Int) : Wd × Int := match f with | none => (wd0, 5) | some b => if 0 ≤ i ∧ i < b.ws.length then (b.ws.getD i.toNat wd0, 0) else (wd0, 3)
theorem log_load (x : PH) (k i : Int) : loadR (x.find k) i = loadL (x.log.find k) i := by
  rw [log_find]; cases x.find k <;> rfl

theorem Heap.storeL {W0 w : World} {hp : Nat} {y o : Int} {x : PH} (h : Heap W0 w hp y o x) (k i : Int) (u : Wd) :
    Calls Try.prog 19 #[.pointer (some ⟨hp, 0, none⟩), .int .i64 k, .int .i64 i, u.val] w fun e w' => e = .returned (.int .i64 (x.log.store k i u).2) ∧ (∃ x', Heap W0 w' hp y o x' ∧ x'.log = (x.log.store k i u).1) ∧ Keeps x.fp w w' := by
  refine (h.store k i u).mono ?_
  rintro e w' ⟨rfl, h1, h2⟩
  have h3 := log_store h.rep.ok h.rep.ps k i u
  exact ⟨by rw [h3.2], ⟨_, h1, h3.1⟩, h2⟩
theorem Heap.allocL {W0 w : World} {hp : Nat} {y o : Int} {x : PH} (h : Heap W0 w hp y o x) (kind size : Int) :
    Calls Try.prog 34 #[.pointer (some ⟨hp, 0, none⟩), .int .i64 kind, .int .i64 size] w fun e w' => e = .returned (.tuple #[.int .i64 (x.log.alloc kind size).2.1, .int .i64 (x.log.alloc kind size).2.2]) ∧ (∃ x', Heap W0 w' hp y o x' ∧ x'.log = (x.log.alloc kind size).1) ∧ Keeps x.fp w w' := by
  rw [← h.hp_]
  refine (Alloc_any h.rep kind size).mono ?_
  rintro e w' ⟨rfl, x', h1, h2, h3, h4, h5⟩
  refine ⟨rfl, ⟨x', ⟨h1, h2, by rw [h3]; exact h.inv.alloc kind size, ?_, ?_, h.frame h4⟩, h3⟩, h4⟩
  · have : x'.log.Y = x.log.Y := by rw [h3, (alloc_YO _ _ _).1]
    exact this.trans h.Y
  · have : x'.log.O = x.log.O := by rw [h3, (alloc_YO _ _ _).2]
    exact this.trans h.O
theorem Heap.loadL {W0 w : World} {hp : Nat} {y o : Int} {x : PH} (h : Heap W0 w hp y o x) (k i : Int) :
    Calls Try.prog 20 #[.pointer (some ⟨hp, 0, none⟩), .int .i64 k, .int .i64 i] w fun e w' => e = .returned (.tuple #[(Go.Proofs.Ytikigppfnhilhaa.loadL (x.log.find k) i).1.val, .int .i64 (Go.Proofs.Ytikigppfnhilhaa.loadL (x.log.find k) i).2]) ∧ Ext w w' := by
  rw [← h.hp_, ← log_load]
  exact Load_any h.rep k i
theorem Heap.free {W0 w : World} {hp : Nat} {y o : Int} {x : PH} (h : Heap W0 w hp y o x) :
    Calls Try.prog 23 #[.pointer (some ⟨hp, 0, none⟩)] w fun e w' => e = .returned (.tuple #[.int .i64 (y - bused x.log.yb), .int .i64 (o - bused x.log.ob)]) ∧ Ext w w' := by
  have ok := h.rep.ok
  rw [← h.hp_]
  refine (Free_any h.rep ok.Y0 ok.Y1 ok.O0 ok.O1 ok.yu0 (Int.le_trans ok.yu1 ok.Y1) ok.ou0 (Int.le_trans ok.ou1 ok.O1)).mono ?_
  rintro e w' ⟨rfl, n, rfl⟩
  refine ⟨?_, (Ext.refl _).drewN n⟩
  rw [h.Y, h.O, ok.yu, ok.ou]; rfl

/-! ### awake, without places -/
def awU : Wd := ⟨1, 4, 7, ⟨#[]⟩, 0, 0⟩
def awR : Wd := ⟨1, 1, 0, ⟨#[]⟩, 0, 0⟩
def aw1 : LH := ⟨10, 10, [⟨1, 1, [wd0, wd0]⟩], [], []⟩
def aw2 : LH := ⟨10, 10, [⟨1, 1, [wd0, wd0]⟩, ⟨4, 2, [wd0, wd0, wd0]⟩], [], []⟩
def aw3 : LH := ⟨10, 10, [⟨1, 1, [awU, wd0]⟩, ⟨4, 2, [wd0, wd0, wd0]⟩], [], []⟩
def aw4 : LH := ⟨10, 10, [], [⟨11, 1, [⟨1, 14, 7, ⟨#[]⟩, 0, 0⟩, wd0]⟩, ⟨14, 2, [wd0, wd0, wd0]⟩], []⟩
theorem aw_alloc1 : LH.alloc ⟨10, 10, [], [], []⟩ 1 2 = (aw1, 1, 0) := rfl
theorem aw_alloc2 : aw1.alloc 2 3 = (aw2, 4, 0) := rfl
theorem aw_alloc3 : aw2.alloc 3 4 = (aw2, 0, 2) := rfl
theorem aw_store : aw2.store 1 0 awU = (aw3, 0) := rfl
theorem aw_minor : aw3.minor [awR] = (aw4, [⟨1, 11, 0, ⟨#[]⟩, 0, 0⟩], 0) := by
  have k1 : aw3.keep aw3.isY ([awR] ++ aw3.remW) ⟨1, 1, [awU, wd0]⟩ = true := LH.keep_iff.2 (.root (u := awR) (by simp) rfl rfl)
  have k2 : aw3.keep aw3.isY ([awR] ++ aw3.remW) ⟨4, 2, [wd0, wd0, wd0]⟩ = true := LH.keep_iff.2 (.step (u := awU) (LH.keep_iff.1 k1) (by simp) rfl rfl)
  have hl : aw3.liveY [awR] = aw3.yb := by
    unfold LH.liveY
    rw [List.filter_eq_self]
    intro b hb
    simp only [aw3, List.mem_cons, List.not_mem_nil, or_false] at hb
    rcases hb with rfl | rfl
    · exact k1
    · exact k2
  unfold LH.minor LH.minorF
  rw [hl]
  rfl
theorem aw_load : loadL (aw4.find 11) 0 = (⟨1, 14, 7, ⟨#[]⟩, 0, 0⟩, 0) := rfl
end Go.Proofs.Ytikigppfnhilhaa
