/- A heap and the reference's heap, side by side. collected: a collection on both heaps. -/
import Derived.Test.YtikigppfnhilhaaGPD47
import Derived.Test.YtikigppfnhilhaaGPD31
/- A heap and the reference's heap, side by side. -/
namespace Go.Proofs.Ytikigppfnhilhaa
open Go.RowKit Go.Instr
set_option linter.unusedVariables false
set_option linter.unusedSimpArgs false
attribute [local go_sem] Oper.semAt_some

def kindL (f : Option Bk) : Int × Int := match f with | none => (0, 5) | some b => (b.kind, 0)
def sizeL (f : Option Bk) : Int × Int := match f with | none => (0, 5) | some b => (b.ws.length, 0)
def youngL (Y : Int) (f : Option Bk) : Bool × Int := match f with | none => (false, 5) | some b => (decide (b.at_ ≤ Y), 0)
/-- What a step leaves. -/
def Adv (St : World → LH → (Nat → Prop) → Prop) (w : World) (P : Nat → Prop) (h' : LH) (w' : World) : Prop :=
  Keeps P w w' ∧ ∃ P', St w' h' P' ∧ ∀ k, P' k → P k ∨ w.heap.size ≤ k
/-- What a heap's functions do, whatever the heap is. -/
structure Ops (base : Nat) (v : Value) (St : World → LH → (Nat → Prop) → Prop) : Prop where
  keep : ∀ {w w' h P} {S : Nat → Prop}, St w h P → Keeps S w w' → (∀ k, P k → ¬ S k) → (∀ k, S k → base ≤ k) → St w' h P
  lt : ∀ {w h P}, St w h P → ∀ k, P k → k < w.heap.size
  low : ∀ {w h P}, St w h P → ∀ k, P k → base ≤ k
  lok : ∀ {w h P}, St w h P → LOk h
  inv : ∀ {w h P}, St w h P → LInv h
  alloc : ∀ {w h P}, St w h P → ∀ kind size : Int, Calls Try.prog 34 #[v, .int .i64 kind, .int .i64 size] w fun e w' => e = .returned (.tuple #[.int .i64 (h.alloc kind size).2.1, .int .i64 (h.alloc kind size).2.2]) ∧ Adv St w P (h.alloc kind size).1 w'
  store : ∀ {w h P}, St w h P → ∀ (k i : Int) (u : Wd), Calls Try.prog 19 #[v, .int .i64 k, .int .i64 i, u.val] w fun e w' => e = .returned (.int .i64 (h.store k i u).2) ∧ Adv St w P (h.store k i u).1 w'
  load : ∀ {w h P}, St w h P → ∀ k i : Int, Calls Try.prog 20 #[v, .int .i64 k, .int .i64 i] w fun e w' => e = .returned (.tuple #[(loadL (h.find k) i).1.val, .int .i64 (loadL (h.find k) i).2]) ∧ Ext w w'
  minor : ∀ {w h P}, St w h P → ∀ {rv : Value} {roots : List Wd}, RdW w rv roots → (roots ≠ [] → ∀ k, rv.ownBlock = some k → ¬ P k) → roots.length ≤ 1048576 →
    Calls Try.prog 35 #[v, rv] w fun e w' => ∃ v', e = .returned (.tuple #[v', .int .i64 (h.minor roots).2.2]) ∧ w'.ownsRow w.heap.size 33 6 v' (h.minor roots).2.1.length (flatL (h.minor roots).2.1) ∧ Adv St w P (h.minor roots).1 w'
  major : ∀ {w h P}, St w h P → ∀ {rv : Value} {roots : List Wd}, RdW w rv roots → (roots ≠ [] → ∀ k, rv.ownBlock = some k → ¬ P k) → roots.length ≤ 1048576 →
    Calls Try.prog 36 #[v, rv] w fun e w' => ∃ v', e = .returned (.tuple #[v', .int .i64 (h.major roots).2.2]) ∧ w'.ownsRow w.heap.size 33 6 v' (h.major roots).2.1.length (flatL (h.major roots).2.1) ∧ Adv St w P (h.major roots).1 w'
  reach : ∀ {w h P}, St w h P → ∀ {rv : Value} {roots : List Wd}, RdW w rv roots → roots.length ≤ 1048576 →
    Calls Try.prog 22 #[v, rv] w fun e w' => ∃ v', e = .returned (.tuple #[v', .int .i64 (if roots.any h.bad = true then 1 else 0)]) ∧ w'.ownsRow w.heap.size 3 1 v' (h.reachB roots).length ((h.reachB roots).map (Value.int .i64)) ∧ Ext w w'
  kind : ∀ {w h P}, St w h P → ∀ k : Int, Calls Try.prog 56 #[v, .int .i64 k] w fun e w' => e = .returned (.tuple #[.int .i64 (kindL (h.find k)).1, .int .i64 (kindL (h.find k)).2]) ∧ Ext w w'
  size : ∀ {w h P}, St w h P → ∀ k : Int, Calls Try.prog 57 #[v, .int .i64 k] w fun e w' => e = .returned (.tuple #[.int .i64 (sizeL (h.find k)).1, .int .i64 (sizeL (h.find k)).2]) ∧ Ext w w'
  young : ∀ {w h P}, St w h P → ∀ k : Int, Calls Try.prog 27 #[v, .int .i64 k] w fun e w' => e = .returned (.tuple #[.bool (youngL h.Y (h.find k)).1, .int .i64 (youngL h.Y (h.find k)).2]) ∧ Ext w w'
  free : ∀ {w h P}, St w h P → Calls Try.prog 23 #[v] w fun e w' => e = .returned (.tuple #[.int .i64 (h.Y - bused h.yb), .int .i64 (h.O - bused h.ob)]) ∧ Ext w w'
  rem : ∀ {w h P}, St w h P → Calls Try.prog 26 #[v] w fun e w' => ∃ (v' : Value) (rs : List Int), e = .returned v' ∧ w'.ownsRow w.heap.size 3 1 v' rs.length (rs.map (Value.int .i64)) ∧ rs.Pairwise (· < ·) ∧ (∀ k, k ∈ rs ↔ k ∈ h.R) ∧ rs.length ≤ 1000000 ∧ Ext w w'
  blocks : ∀ {w h P}, St w h P → Calls Try.prog 12 #[v] w fun e w' => ∃ a c vs, e = .returned (.slice a h.all.length c) ∧ OwnBs w' w.heap.size (.slice a h.all.length c) h.all vs ∧ Ext w w'

/-- A heap that has been made. -/
def StH (W0 : World) (hp : Nat) (y o : Int) (w : World) (h : LH) (P : Nat → Prop) : Prop := ∃ x, Heap W0 w hp y o x ∧ x.log = h ∧ P = x.fp
theorem log_kind (x : PH) (k : Int) : kindR (x.find k) = kindL (x.log.find k) := by rw [log_find]; cases x.find k <;> rfl
theorem log_size (x : PH) (k : Int) : sizeR (x.find k) = sizeL (x.log.find k) := by rw [log_find]; cases x.find k <;> rfl
theorem log_young (x : PH) (k : Int) : youngR x.Y (x.find k) = youngL x.log.Y (x.log.find k) := by rw [log_find]; cases x.find k <;> rfl
theorem StH.adv {W0 w w' : World} {hp : Nat} {y o : Int} {x : PH} (h : Heap W0 w hp y o x) {l' : LH} (hs : Step w W0.heap.size x l' w') (hi : LInv l') (hY : l'.Y = x.log.Y) (hO : l'.O = x.log.O) : Adv (StH W0 hp y o) w x.fp l' w' := by
  obtain ⟨x', h1, h2, h3, h4, h5⟩ := hs
  refine ⟨h4, x'.fp, ⟨x', ⟨h1, h2.trans h.hp_, by rw [h3]; exact hi, ?_, ?_, h.frame h4⟩, h3, rfl⟩, h5⟩
  · have : x'.log.Y = x.log.Y := by rw [h3, hY]
    exact this.trans h.Y
  · have : x'.log.O = x.log.O := by rw [h3, hO]
    exact this.trans h.O
theorem setWord_fp (x : PH) (p i : Nat) (u : Wd) (k : Nat) (h : (x.setWord p i u).fp k) : x.fp k := by
  have e1 : (x.setWord p i u).all.map PB.p = x.all.map PB.p := by
    show ((x.yb.map (setPB p i u)) ++ (x.ob.map (setPB p i u))).map PB.p = _
    rw [← List.map_append, List.map_map]
    exact List.map_congr_left fun z _ => by show (setPB p i u z).p = z.p; unfold setPB; split <;> rfl
  have e2 : (x.setWord p i u).all.map PB.arr = x.all.map PB.arr := by
    show ((x.yb.map (setPB p i u)) ++ (x.ob.map (setPB p i u))).map PB.arr = _
    rw [← List.map_append, List.map_map]
    exact List.map_congr_left fun z _ => by show (setPB p i u z).arr = z.arr; unfold setPB; split <;> rfl
  unfold PH.fp at h ⊢
  rw [e1, e2] at h
  exact h
theorem heapOps (W0 : World) (hp : Nat) (y o : Int) : Ops W0.heap.size (.pointer (some ⟨hp, 0, none⟩)) (StH W0 hp y o) where
  keep := by
    rintro w w' h P S ⟨x, hx, rfl, rfl⟩ hk hn hb
    exact ⟨x, ⟨hx.rep.kept hk hn, hx.hp_, hx.inv, hx.Y, hx.O, hx.ext.trans' hk fun k hk2 hf => by have := hb k hf; omega⟩, rfl, rfl⟩
  lt := by
    rintro w h P ⟨x, hx, rfl, rfl⟩ k hk
    exact hx.rep.fp_lt k hk
  low := by
    rintro w h P ⟨x, hx, rfl, rfl⟩ k hk
    exact hx.rep.base_ k hk
  lok := by
    rintro w h P ⟨x, hx, rfl, rfl⟩
    exact hx.rep.ok.lok
  inv := by
    rintro w h P ⟨x, hx, rfl, rfl⟩
    exact hx.inv
  alloc := by
    rintro w h P ⟨x, hx, rfl, rfl⟩ kind size
    rw [← hx.hp_]
    refine (Alloc_any hx.rep kind size).mono ?_
    rintro e w' ⟨rfl, hs⟩
    have h2 := StH.adv hx hs (hx.inv.alloc kind size) (alloc_YO _ _ _).1 (alloc_YO _ _ _).2
    rw [← hx.hp_] at h2
    exact ⟨rfl, h2⟩
  store := by
    rintro w h P ⟨x, hx, rfl, rfl⟩ k i u
    refine (hx.store k i u).mono ?_
    rintro e w' ⟨rfl, h1, h2⟩
    have h3 := log_store hx.rep.ok hx.rep.ps k i u
    refine ⟨by rw [h3.2], h2, _, ⟨_, h1, h3.1, rfl⟩, fun k hk => ?_⟩
    left
    split at hk
    · unfold PH.stored at hk
      split at hk
      · exact hk
      · exact setWord_fp _ _ _ _ _ hk
    · exact hk
  load := by
    rintro w h P ⟨x, hx, rfl, rfl⟩ k i
    exact hx.loadL k i
  minor := by
    rintro w h P ⟨x, hx, rfl, rfl⟩ rv roots hr hd hl
    rw [← hx.hp_]
    refine (Minor_any hx.rep hx.inv hr hd hl).mono ?_
    rintro e w' ⟨v', rfl, ho, hs⟩
    have h2 := StH.adv hx hs.step (hx.inv.minor hx.rep.ok.lok roots) (minor_YO _ _).1 (minor_YO _ _).2
    rw [← hx.hp_] at h2
    exact ⟨v', rfl, ho, h2⟩
  major := by
    rintro w h P ⟨x, hx, rfl, rfl⟩ rv roots hr hd hl
    rw [← hx.hp_]
    refine (Major_any hx.rep hx.inv hr hd hl).mono ?_
    rintro e w' ⟨v', rfl, ho, hs⟩
    have h2 := StH.adv hx hs.step (hx.inv.major hx.rep.ok.lok roots) (major_YO _ _).1 (major_YO _ _).2
    rw [← hx.hp_] at h2
    exact ⟨v', rfl, ho, h2⟩
  reach := by
    rintro w h P ⟨x, hx, rfl, rfl⟩ rv roots hr hl
    rw [← hx.hp_]
    exact Reach_any hx.rep hr hl
  kind := by
    rintro w h P ⟨x, hx, rfl, rfl⟩ k
    rw [← hx.hp_, ← log_kind]
    exact (Kind_any hx.rep k).mono fun e w' ⟨h1, h2⟩ => ⟨h1, h2 ▸ Ext.refl _⟩
  size := by
    rintro w h P ⟨x, hx, rfl, rfl⟩ k
    rw [← hx.hp_, ← log_size]
    exact (Size_any hx.rep k).mono fun e w' ⟨h1, h2⟩ => ⟨h1, h2 ▸ Ext.refl _⟩
  young := by
    rintro w h P ⟨x, hx, rfl, rfl⟩ k
    rw [← hx.hp_, ← log_young]
    refine (Young_any hx.rep k).mono ?_
    rintro e w' ⟨h1, n, rfl⟩
    exact ⟨h1, (Ext.refl _).drewN n⟩
  free := by
    rintro w h P ⟨x, hx, rfl, rfl⟩
    have h1 := hx.free
    rw [← hx.Y, ← hx.O] at h1
    exact h1
  rem := by
    rintro w h P ⟨x, hx, rfl, rfl⟩
    rw [← hx.hp_]
    exact Remembered_any hx.rep hx.inv
  blocks := by
    rintro w h P ⟨x, hx, rfl, rfl⟩
    exact hx.blocks

/-- A heap and the reference's: they are alike. -/
structure Joint (base : Nat) (St : World → LH → (Nat → Prop) → Prop) (rp : Nat) (w : World) (h : LH) (P : Nat → Prop) (r : RH) : Prop where
  st : St w h P
  ref : RRep w base r
  rp_ : r.rp = rp
  cpl : Cpl h r
  apart : ∀ k, P k → ¬ r.fp k
section
variable {base : Nat} {v : Value} {St : World → LH → (Nat → Prop) → Prop} {rp : Nat}
theorem Joint.ext (O : Ops base v St) {w w' : World} {h : LH} {P : Nat → Prop} {r : RH} (j : Joint base St rp w h P r) (hx : Ext w w') : Joint base St rp w' h P r :=
  ⟨O.keep j.st hx (fun _ _ h => h) (fun _ h => h.elim), j.ref.ext hx, j.rp_, j.cpl, j.apart⟩
theorem Joint.kept (O : Ops base v St) {w w' : World} {h : LH} {P : Nat → Prop} {r : RH} (j : Joint base St rp w h P r) {S : Nat → Prop} (hk : Keeps S w w') (hb : ∀ k, S k → base ≤ k) (h1 : ∀ k, P k → ¬ S k) (h2 : ∀ k, r.fp k → ¬ S k) : Joint base St rp w' h P r :=
  ⟨O.keep j.st hk h1 hb, j.ref.kept hk h2, j.rp_, j.cpl, j.apart⟩
/-- The heap has taken a step, the reference not yet. -/
structure Led (base : Nat) (St : World → LH → (Nat → Prop) → Prop) (rp : Nat) (w0 w : World) (P0 : Nat → Prop) (h : LH) (h' : LH) (P' : Nat → Prop) (r : RH) : Prop where
  st : St w h' P'
  ref : RRep w base r
  rp_ : r.rp = rp
  cpl : Cpl h r
  apart : ∀ k, P' k → ¬ r.fp k
  keep : Keeps P0 w0 w
theorem Joint.lead (O : Ops base v St) {w w' : World} {h : LH} {P : Nat → Prop} {r : RH} (j : Joint base St rp w h P r) {h' : LH} (a : Adv St w P h' w') : ∃ P', Led base St rp w w' P h h' P' r := by
  obtain ⟨hk, P', h1, h2⟩ := a
  refine ⟨P', h1, j.ref.kept hk fun k hf hp => j.apart k hp hf, j.rp_, j.cpl, fun k hk2 hf => ?_, hk⟩
  rcases h2 k hk2 with e | e
  · exact j.apart k e hf
  · have := j.ref.fp_lt k hf; omega
theorem Led.ext (O : Ops base v St) {w0 w w' : World} {P0 : Nat → Prop} {h h' : LH} {P' : Nat → Prop} {r : RH} (j : Led base St rp w0 w P0 h h' P' r) (hx : Ext w w') : Led base St rp w0 w' P0 h h' P' r :=
  ⟨O.keep j.st hx (fun _ _ h => h) (fun _ h => h.elim), j.ref.ext hx, j.rp_, j.cpl, j.apart, j.keep.trans (hx.mono fun _ _ h => h.elim)⟩
theorem Led.join (O : Ops base v St) {w0 w w' : World} {P0 : Nat → Prop} {h h' : LH} {P' : Nat → Prop} {r : RH} (j : Led base St rp w0 w P0 h h' P' r) (hs : RStep w base r h' w') : ∃ r', Joint base St rp w' h' P' r' ∧ Keeps (fun k => P0 k ∨ r.fp k) w0 w' := by
  obtain ⟨r', h1, h2, h3, h4, h5⟩ := hs
  refine ⟨r', ⟨O.keep j.st h4 (fun k hk hf => j.apart k hk hf) (fun k hk => j.ref.base_ k hk), h1, h2.trans j.rp_, h3, fun k hk hf => ?_⟩, (j.keep.mono fun k _ h => .inl h : Keeps (fun k => P0 k ∨ r.fp k) w0 w).trans (h4.mono fun k _ h => .inr h)⟩
  rcases h5 k hf with e | e
  · exact j.apart k hk e
  · have := O.lt j.st k hk; omega
end
theorem LEq.lok {a b : LH} (e : LEq a b) (k : LOk a) : LOk b := ⟨by rw [← e.Y]; exact k.Y0, by rw [← e.O]; exact k.O0, by rw [← e.yb, ← e.Y]; exact k.uy, by rw [← e.ob, ← e.O]; exact k.uo, by rw [← e.yb]; exact k.dy, by rw [← e.ob, ← e.Y]; exact k.do_⟩
theorem LEq.inv {a b : LH} (e : LEq a b) (k : LInv a) : LInv b := ⟨by rw [← e.all, ← e.bad]; exact k.ref, fun j hj => by rw [← e.ob]; exact k.rem j ((e.R j).2 hj), fun x hx u hu h1 h2 => by rw [← e.R]; exact k.mem x (by rw [e.ob]; exact hx) u hu h1 (by rw [e.Y]; exact h2)⟩
end Go.Proofs.Ytikigppfnhilhaa
/- collected: a collection on both heaps. -/
namespace Go.Proofs.Ytikigppfnhilhaa
open Go.RowKit Go.Instr
set_option linter.unusedVariables false
set_option linter.unusedSimpArgs false
attribute [local go_sem] Oper.semAt_some

theorem minor_len (h : LH) (roots : List Wd) : (h.minor roots).2.1.length ≤ roots.length := by
  unfold LH.minor
  split
  · exact Nat.zero_le _
  · split
    · exact Nat.zero_le _
    · simp
theorem major_len (h : LH) (roots : List Wd) : (h.major roots).2.1.length ≤ roots.length := by
  unfold LH.major
  split
  · exact Nat.zero_le _
  · simp
/-- An act was done on both heaps, with the same results. -/
def DidR (base : Nat) (St : World → LH → (Nat → Prop) → Prop) (rp : Nat) (w : World) (P : Nat → Prop) (r : RH) (e : Ending) (w' : World) : Prop :=
  e = .returned (.bool true) ∧ ∃ h' P' r', Joint base St rp w' h' P' r' ∧ Keeps (fun k => P k ∨ r.fp k) w w'
def Ac.box (x : Ac) (rv : Value) : Array Value := #[.int .i64 x.kind, .int .i64 x.a, .int .i64 x.b, .int .i64 x.w.tag, .int .i64 x.w.a, .int .i64 x.w.b, .string x.w.text, .int .i64 x.w.man, .int .i64 x.w.exp, rv, .bool x.near]
theorem ne_lt {w : World} {k b : Nat} (h : k < b) (hb : b ≤ k) : False := by omega

set_option maxRecDepth 100000 in
set_option maxHeartbeats 8000000 in
theorem collected_any {base : Nat} {v : Value} {St : World → LH → (Nat → Prop) → Prop} (O : Ops base v St) {w : World} {h : LH} {P : Nat → Prop} {r : RH} (j : Joint base St r.rp w h P r) (x : Ac) {ra : Option Addr} {rc : Nat}
    (hr : RdW w (.slice ra x.roots.length rc) x.roots) (hap : x.roots ≠ [] → ∀ k, (Value.slice ra x.roots.length rc).ownBlock = some k → ¬ P k ∧ ¬ r.fp k) (hl : x.roots.length ≤ 1048576) :
    Calls Try.prog 54 #[v, .pointer (some ⟨r.rp, 0, none⟩), .agg (x.box (.slice ra x.roots.length rc))] w (DidR base St r.rp w P r) := by
  obtain ⟨n, hn⟩ : ∃ n, x.roots.length = n := ⟨_, rfl⟩
  obtain ⟨bx, hbx⟩ : ∃ bx, w.heap.size = bx := ⟨_, rfl⟩
  have hPlt := O.lt j.st
  have hRlt := j.ref.fp_lt
  rw [hbx] at hPlt hRlt
  have HPn : Hid (¬ P bx ∧ ¬ r.fp bx) := Lib.hid ⟨fun hp => by have := hPlt bx hp; omega, fun hp => by have := hRlt bx hp; omega⟩
  have HPl := Lib.hid hPlt; have HRl := Lib.hid hRlt; have Hn := Lib.hid hn; have Hbx := Lib.hid hbx
  have J := Lib.hid j; have Hr := Lib.hid hr; have Hap := Lib.hid hap
  generalize hM : DidR base St r.rp w P r = M
  have HM := Lib.hid hM
  unfold Ac.box
  rw [hn]
  clear hPlt hRlt hbx j hr hap hM hn
  go_enter Try.func54, Try.ntmps54
  go_upto_region 1 with fail
  obtain ⟨W1, hW1⟩ : ∃ W1, w.alloc (.cells (x.box (.slice ra n rc)) 35) = W1 := ⟨_, rfl⟩
  have HX1 : Hid (Ext w W1) := Lib.hid (by rw [← hW1]; exact (Ext.refl w).alloc _)
  have HB1 : Hid (Blk W1 bx (x.box (.slice ra n rc)) 35) := Lib.hid (by rw [← hW1, ← Hbx.out]; exact Blk.new w _ _)
  have HJ1 := Lib.hid (J.out.ext O HX1.out)
  have Hr1 := Lib.hid (Hr.out.ext HX1.out)
  have HW1 := Lib.hid hW1
  have Hs1 : Hid (bx ≤ W1.heap.size) := Lib.hid (by rw [← Hbx.out]; exact HX1.out.size)
  have c0 : W1.cell? ⟨bx, 0, none⟩ = some (.int .i64 x.kind) := (HB1.out.cell 0).trans rfl
  have c9 : W1.cell? ⟨bx, 0 + 9, none⟩ = some (.slice ra n rc) := (HB1.out.cell 9).trans rfl
  unfold Ac.box at hW1
  rw [Hbx.out, hW1]
  clear hW1
  by_cases hk3 : x.kind = 3
  · rw [hk3] at c0
    clear hk3
    have HC := Lib.hid (O.minor HJ1.out.st Hr1.out (fun hn k hk => (Hap.out hn k hk).1) hl)
    rw [Hn.out] at HC
    go_wp2_with fail
    refine HC.out.mono ?_
    rintro e w2 ⟨v', rfl, ho, ha⟩
    obtain ⟨P', hL⟩ := HJ1.out.lead O ha
    have HL := Lib.hid hL
    have HB2 := Lib.hid (ha.1.blk HB1.out HPn.out.1)
    have Hr2 := Lib.hid (Hr1.out.kept2 ha.1 fun hn k hk => (Hap.out hn k hk).1)
    have HO2 := Lib.hid ho
    obtain ⟨va, vc, rfl⟩ := own_slice ho
    have hle := LEq.minor (Cpl.leq HJ1.out.cpl) x.roots
    have HLE := Lib.hid hle
    have HCr := Lib.hid (RMinor_any HL.out.ref (LEq.inv (Cpl.leq HJ1.out.cpl) (O.inv HJ1.out.st)).ref Hr2.out (fun hn k hk => (Hap.out hn k hk).2) hl (LEq.lok hle.1 (O.lok HL.out.st)))
    rw [Hn.out] at HCr
    clear c0 c9 ho ha hL hle HC
    have c9 : w2.cell? ⟨bx, 0 + 9, none⟩ = some (.slice ra n rc) := (HB2.out.cell 9).trans rfl
    go_wp2_with fail
    refine HCr.out.mono ?_
    rintro e w3 ⟨v'', rfl, hrd, hown, hst⟩
    have Hks : Hid (Keeps r.fp w2 w3) := Lib.hid hst.choose_spec.2.2.2.1
    obtain ⟨r', hJ, hK⟩ := HL.out.join O (LEq.step HLE.out.1 hst)
    have HJ := Lib.hid hJ; have HK := Lib.hid hK
    rw [← HLE.out.2] at hrd
    rw [← HLE.out.2]
    obtain ⟨c, hc⟩ : ∃ c, (h.minor x.roots).2 = c := ⟨_, rfl⟩
    have Hcl : Hid (c.1.length ≤ 1048576) := Lib.hid (by rw [← hc]; exact Nat.le_trans (minor_len _ _) hl)
    rw [hc] at hrd HO2 ⊢
    obtain ⟨L, E⟩ := c
    have hra : RdW w3 (.slice va L.length vc) L := (rdW_of_own HO2.out).kept Hks.out fun k hk hf => by
      have h1 := (HO2.out.lt k hk).1; have h2 := HRl.out k hf; have h3 := Hs1.out; omega
    have HS := Lib.hid (sameWords_any hra hrd (Nat.le_trans Hcl.out (by decide)) (Nat.le_trans Hcl.out (by decide)))
    rw [decide_eq_true rfl] at HS
    clear c9 hrd hown hst hJ hK hc hra HCr
    go_wp2_with fail
    refine HS.out.mono ?_
    rintro e w4 ⟨rfl, hx4⟩
    have HX4 := Lib.hid hx4
    clear hx4 HS
    go_wp2_with fail
    rw [← HM.out]
    exact ⟨rfl, _, _, r', HJ.out.ext O HX4.out, (HX1.out.mono fun _ _ h => h.elim : Keeps (fun k => P k ∨ r.fp k) w W1).trans (HK.out.trans (HX4.out.mono fun _ _ h => h.elim))⟩
  have hk3' : (x.kind == 3) = false := by simpa using hk3
  by_cases hk4 : x.kind = 4
  · rw [hk4] at c0 hk3'
    clear hk4
    have HC := Lib.hid (O.major HJ1.out.st Hr1.out (fun hn k hk => (Hap.out hn k hk).1) hl)
    rw [Hn.out] at HC
    go_wp2_with fail
    refine HC.out.mono ?_
    rintro e w2 ⟨v', rfl, ho, ha⟩
    obtain ⟨P', hL⟩ := HJ1.out.lead O ha
    have HL := Lib.hid hL
    have HB2 := Lib.hid (ha.1.blk HB1.out HPn.out.1)
    have Hr2 := Lib.hid (Hr1.out.kept2 ha.1 fun hn k hk => (Hap.out hn k hk).1)
    have HO2 := Lib.hid ho
    obtain ⟨va, vc, rfl⟩ := own_slice ho
    have hle := LEq.major (Cpl.leq HJ1.out.cpl) x.roots
    have HLE := Lib.hid hle
    have HCr := Lib.hid (RMajor_any HL.out.ref (LEq.inv (Cpl.leq HJ1.out.cpl) (O.inv HJ1.out.st)) Hr2.out (fun hn k hk => (Hap.out hn k hk).2) hl (LEq.lok hle.1 (O.lok HL.out.st)))
    rw [Hn.out] at HCr
    clear c0 c9 ho ha hL hle HC
    have c9 : w2.cell? ⟨bx, 0 + 9, none⟩ = some (.slice ra n rc) := (HB2.out.cell 9).trans rfl
    go_wp2_with fail
    refine HCr.out.mono ?_
    rintro e w3 ⟨v'', rfl, hrd, hown, hst⟩
    have Hks : Hid (Keeps r.fp w2 w3) := Lib.hid hst.choose_spec.2.2.2.1
    obtain ⟨r', hJ, hK⟩ := HL.out.join O (LEq.step HLE.out.1 hst)
    have HJ := Lib.hid hJ; have HK := Lib.hid hK
    rw [← HLE.out.2] at hrd
    rw [← HLE.out.2]
    obtain ⟨c, hc⟩ : ∃ c, (h.major x.roots).2 = c := ⟨_, rfl⟩
    have Hcl : Hid (c.1.length ≤ 1048576) := Lib.hid (by rw [← hc]; exact Nat.le_trans (major_len _ _) hl)
    rw [hc] at hrd HO2 ⊢
    obtain ⟨L, E⟩ := c
    have hra : RdW w3 (.slice va L.length vc) L := (rdW_of_own HO2.out).kept Hks.out fun k hk hf => by
      have h1 := (HO2.out.lt k hk).1; have h2 := HRl.out k hf; have h3 := Hs1.out; omega
    have HS := Lib.hid (sameWords_any hra hrd (Nat.le_trans Hcl.out (by decide)) (Nat.le_trans Hcl.out (by decide)))
    rw [decide_eq_true rfl] at HS
    clear c9 hrd hown hst hJ hK hc hra HCr
    go_wp2_with fail
    refine HS.out.mono ?_
    rintro e w4 ⟨rfl, hx4⟩
    have HX4 := Lib.hid hx4
    clear hx4 HS
    go_wp2_with fail
    rw [← HM.out]
    exact ⟨rfl, _, _, r', HJ.out.ext O HX4.out, (HX1.out.mono fun _ _ h => h.elim : Keeps (fun k => P k ∨ r.fp k) w W1).trans (HK.out.trans (HX4.out.mono fun _ _ h => h.elim))⟩
  have hk4' : (x.kind == 4) = false := by simpa using hk4
  have HC := Lib.hid (O.reach HJ1.out.st Hr1.out hl)
  rw [Hn.out] at HC
  go_wp2_with fail
  refine HC.out.mono ?_
  rintro e w2 ⟨v', rfl, ho, hx2⟩
  obtain ⟨E, hE⟩ : ∃ E, (if x.roots.any h.bad = true then (1 : Int) else 0) = E := ⟨_, rfl⟩
  rw [hE]
  have HE := Lib.hid hE
  have HX2 := Lib.hid hx2
  have HB2 := Lib.hid (hx2.blk HB1.out id)
  have HJ2 := Lib.hid (HJ1.out.ext O hx2)
  have Hr2 := Lib.hid (Hr1.out.ext hx2)
  have HO2 := Lib.hid ho
  obtain ⟨va, vc, rfl⟩ := own_slice ho
  have HCr := Lib.hid (RReach_any HJ2.out.ref (LEq.inv (Cpl.leq HJ1.out.cpl) (O.inv HJ1.out.st)).ref Hr2.out hl)
  rw [Hn.out] at HCr
  have he1 : h.bad = r.log.bad := Cpl.bad HJ1.out.cpl
  have he2 : h.reachB x.roots = r.log.reachB x.roots := HJ1.out.cpl.reachB x.roots
  have Hcl : Hid ((h.reachB x.roots).length ≤ 1000000) := Lib.hid (by
    have h1 : (h.reachB x.roots).length ≤ h.all.length := by
      unfold LH.reachB; split
      · exact Nat.zero_le _
      · unfold LH.reach; rw [List.length_map]; exact List.length_filter_le _ _
    have h2 := HJ1.out.ref.alllen
    rw [← HJ1.out.cpl.all] at h2; omega)
  have He1 := Lib.hid he1; have He2 := Lib.hid he2
  clear c0 c9 ho hx2 he1 he2 HC hE
  have c9 : w2.cell? ⟨bx, 0 + 9, none⟩ = some (.slice ra n rc) := (HB2.out.cell 9).trans rfl
  go_wp2_with fail
  refine HCr.out.mono ?_
  rintro e w3 ⟨v'', rfl, hown, hx3⟩
  rw [← He1.out, HE.out]
  rw [← He2.out] at hown
  obtain ⟨L, hL⟩ : ∃ L, h.reachB x.roots = L := ⟨_, rfl⟩
  rw [hL] at hown HO2 Hcl ⊢
  have HX3 := Lib.hid hx3
  have HJ3 := Lib.hid (HJ2.out.ext O hx3)
  have HS := Lib.hid (ints_any (own_ext HO2.out hx3) hown Hcl.out Hcl.out)
  rw [decide_eq_true rfl] at HS
  clear c9 hown hx3 hL HCr
  go_wp2_with fail
  refine HS.out.mono ?_
  rintro e w4 ⟨rfl, hx4⟩
  have HX4 := Lib.hid hx4
  clear hx4 HS
  go_wp2_with fail
  rw [← HM.out]
  exact ⟨rfl, h, P, r, HJ3.out.ext O HX4.out, (((HX1.out.trans HX2.out).trans HX3.out).trans HX4.out).mono fun _ _ h => h.elim⟩
end Go.Proofs.Ytikigppfnhilhaa
