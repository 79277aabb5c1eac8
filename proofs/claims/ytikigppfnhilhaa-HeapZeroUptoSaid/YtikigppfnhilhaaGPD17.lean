/- Collections without memory: what is kept, and where it goes; and how that stands to blocks in memory. -/
import Derived.Test.YtikigppfnhilhaaGPD16
/- Collections without memory: what is kept, and where it goes; and how that stands to blocks in memory. -/
namespace Go.Proofs.Ytikigppfnhilhaa
open Go.RowKit Go.Instr
set_option linter.unusedVariables false
set_option linter.unusedSimpArgs false

/-- What is reached, over blocks. -/
inductive LRch (F : Int → Option Bk) (p : Bk → Bool) (from_ : List Wd) : Bk → Prop
  | root {u : Wd} {b : Bk} : u ∈ from_ → F (refW u) = some b → p b = true → LRch F p from_ b
  | step {z : Bk} {u : Wd} {b : Bk} : LRch F p from_ z → u ∈ z.ws → F (refW u) = some b → p b = true → LRch F p from_ b
theorem LRch.mono {F : Int → Option Bk} {p : Bk → Bool} {a a' : List Wd} (hs : ∀ u ∈ a, u ∈ a') {b : Bk} (h : LRch F p a b) : LRch F p a' b := by
  induction h with
  | root hu hf hp => exact .root (hs _ hu) hf hp
  | step _ hu hf hp ih => exact .step ih hu hf hp
def LH.all (h : LH) : List Bk := h.yb ++ h.ob
def LH.find (h : LH) (k : Int) : Option Bk := h.all.find? fun b => b.at_ = k
def LH.bad (h : LH) (u : Wd) : Bool := refW u != 0 && (h.find (refW u)).isNone
open Classical in
noncomputable def LH.keep (h : LH) (p : Bk → Bool) (from_ : List Wd) (b : Bk) : Bool := decide (LRch h.find p from_ b)
theorem LH.keep_iff {h : LH} {p : Bk → Bool} {from_ : List Wd} {b : Bk} : h.keep p from_ b = true ↔ LRch h.find p from_ b := by simp [LH.keep]
def shift (s : Int) : List Bk → List Bk
  | [] => []
  | b :: l => { b with at_ := s } :: shift (s + (b.ws.length + 1)) l
def mvTo (a b : List Bk) (k : Int) : Int := match (a.zip b).find? (fun q => q.1.at_ = k) with | some q => q.2.at_ | none => k
def mvB (f : Int → Int) (b : Bk) : Bk := { b with ws := b.ws.map (mvW f) }
def LH.isY (h : LH) (b : Bk) : Bool := decide (b.at_ ≤ h.Y)
def LH.remW (h : LH) : List Wd := h.R.flatMap fun k => match h.find k with | some b => b.ws | none => []
noncomputable def LH.liveY (h : LH) (roots : List Wd) : List Bk := h.yb.filter (h.keep h.isY (roots ++ h.remW))
noncomputable def LH.minorF (h : LH) (roots : List Wd) : Int → Int := mvTo (h.ob ++ h.liveY roots) (h.ob ++ shift (h.Y + 1 + bused h.ob) (h.liveY roots))
noncomputable def LH.minor (h : LH) (roots : List Wd) : LH × List Wd × Int :=
  if roots.any h.bad then (h, [], 1)
  else if h.O - bused h.ob < bused (h.liveY roots) then (h, [], 2)
  else (⟨h.Y, h.O, [], (h.ob ++ shift (h.Y + 1 + bused h.ob) (h.liveY roots)).map (mvB (h.minorF roots)), []⟩, roots.map (mvW (h.minorF roots)), 0)
def fits (room : Int) : List Bk → List Bk × List Bk
  | [] => ([], [])
  | b :: l => if (b.ws.length : Int) + 1 ≤ room then (b :: (fits (room - (b.ws.length + 1)) l).1, (fits (room - (b.ws.length + 1)) l).2) else ([], b :: l)
noncomputable def LH.keptO (h : LH) (roots : List Wd) : List Bk := h.ob.filter (h.keep (fun _ => true) roots)
noncomputable def LH.keptY (h : LH) (roots : List Wd) : List Bk := h.yb.filter (h.keep (fun _ => true) roots)
noncomputable def LH.fit (h : LH) (roots : List Wd) : List Bk × List Bk := fits (h.O - bused (h.keptO roots)) (h.keptY roots)
noncomputable def LH.newO (h : LH) (roots : List Wd) : List Bk := shift (h.Y + 1) (h.keptO roots ++ (h.fit roots).1)
noncomputable def LH.newY (h : LH) (roots : List Wd) : List Bk := shift 1 (h.fit roots).2
noncomputable def LH.majorF (h : LH) (roots : List Wd) : Int → Int := mvTo (h.keptO roots ++ (h.fit roots).1 ++ (h.fit roots).2) (h.newO roots ++ h.newY roots)
def LH.toY (h : LH) (b : Bk) : Bool := b.ws.any fun u => decide (refW u ≠ 0 ∧ refW u ≤ h.Y)
noncomputable def LH.major (h : LH) (roots : List Wd) : LH × List Wd × Int :=
  if roots.any h.bad then (h, [], 1)
  else (⟨h.Y, h.O, (h.newY roots).map (mvB (h.majorF roots)), (h.newO roots).map (mvB (h.majorF roots)), (((h.newO roots).map (mvB (h.majorF roots))).filter h.toY).map Bk.at_⟩, roots.map (mvW (h.majorF roots)), 0)

/-- What holds of a heap at all times, beside the places. -/
structure LInv (h : LH) : Prop where
  ref : ∀ b ∈ h.all, ∀ u ∈ b.ws, h.bad u = false
  rem : ∀ k ∈ h.R, ∃ b ∈ h.ob, b.at_ = k
  mem : ∀ b ∈ h.ob, ∀ u ∈ b.ws, refW u ≠ 0 → refW u ≤ h.Y → b.at_ ∈ h.R

/-! ### Blocks in memory -/

theorem log_all (x : PH) : x.log.all = x.all.map PB.b := by simp [LH.all, PH.log, PH.all]
theorem log_find (x : PH) (k : Int) : x.log.find k = (x.find k).map PB.b := by
  unfold LH.find PH.find; rw [log_all, List.find?_map]; rfl
theorem log_bad (x : PH) (u : Wd) : x.log.bad u = x.bad u := by
  unfold LH.bad PH.bad badF; rw [log_find]; cases x.find (refW u) <;> rfl
theorem find_nodup {α : Type} {l : List α} {g : α → Int} (hn : (l.map g).Nodup) {y : α} (hy : y ∈ l) : l.find? (fun z => g z = g y) = some y := by
  induction l with
  | nil => cases hy
  | cons c l ih =>
    rw [List.map_cons, List.nodup_cons] at hn
    rw [List.find?_cons]
    rcases List.mem_cons.1 hy with e | hy
    · subst e; simp
    · have : g c ≠ g y := fun e => hn.1 (by rw [e]; exact List.mem_map_of_mem hy)
      simp [this]; exact ih hn.2 hy
theorem PH.Ok.find_mem {x : PH} (h : x.Ok) {y : PB} (hy : y ∈ x.all) : x.find y.b.at_ = Option.some y := find_nodup (g := fun y : PB => y.b.at_) h.ats hy
theorem PH.Ok.at_inj {x : PH} (h : x.Ok) {y z : PB} (hy : y ∈ x.all) (hz : z ∈ x.all) (e : y.b.at_ = z.b.at_) : y = z := by
  have h1 := h.find_mem hy; rw [e, h.find_mem hz] at h1; injection h1 with h1; exact h1.symm
theorem rch_log {x : PH} {p : PB → Bool} {q : Bk → Bool} (hpq : ∀ y ∈ x.all, p y = q y.b) {from_ : List Wd} {y : PB} (h : Rch x.find p from_ y) : LRch x.log.find q from_ y.b := by
  induction h with
  | root hu hf hp => exact .root hu (by rw [log_find, hf]; rfl) (by rw [← hpq _ (PH.find_mem hf).1]; exact hp)
  | step _ hu hf hp ih => exact .step ih hu (by rw [log_find, hf]; rfl) (by rw [← hpq _ (PH.find_mem hf).1]; exact hp)
theorem log_rch {x : PH} {p : PB → Bool} {q : Bk → Bool} (hpq : ∀ y ∈ x.all, p y = q y.b) {from_ : List Wd} {b : Bk} (h : LRch x.log.find q from_ b) : ∃ y ∈ x.all, y.b = b ∧ Rch x.find p from_ y := by
  induction h with
  | root hu hf hp =>
    rw [log_find] at hf
    obtain ⟨y, hy, rfl⟩ := Option.map_eq_some_iff.1 hf
    have hm := (PH.find_mem hy).1
    exact ⟨y, hm, rfl, .root hu hy (by rw [hpq _ hm]; exact hp)⟩
  | step _ hu hf hp ih =>
    rw [log_find] at hf
    obtain ⟨y, hy, rfl⟩ := Option.map_eq_some_iff.1 hf
    have hm := (PH.find_mem hy).1
    obtain ⟨z, _, rfl, hr⟩ := ih
    exact ⟨y, hm, rfl, .step hr hu hy (by rw [hpq _ hm]; exact hp)⟩
theorem keep_log {x : PH} (hok : x.Ok) (hps : (x.all.map PB.p).Nodup) {p : PB → Bool} {q : Bk → Bool} (hpq : ∀ y ∈ x.all, p y = q y.b) {from_ from' : List Wd} (hfr : ∀ u, u ∈ from_ ↔ u ∈ from')
    {K : List PB} (hK : ∀ y, y ∈ K ↔ Rch x.find p from_ y) (hKs : ∀ y ∈ K, y ∈ x.all) {y : PB} (hy : y ∈ x.all) : x.log.keep q from' y.b = decide (y.p ∈ K.map PB.p) := by
  have h1 : y.p ∈ K.map PB.p ↔ y ∈ K := ⟨fun h => by
    obtain ⟨z, hz, e⟩ := List.mem_map.1 h
    have := inj_of_nodup hps (hKs z hz) hy e
    rw [← this]; exact hz, fun h => List.mem_map_of_mem h⟩
  rw [Bool.eq_iff_iff, LH.keep_iff, decide_eq_true_iff, h1, hK]
  constructor
  · intro h
    obtain ⟨z, hz, e, hr⟩ := log_rch hpq (h.mono fun u hu => (hfr u).2 hu)
    have := hok.at_inj hz hy (by rw [e])
    rw [← this]; exact hr
  · intro h; exact (rch_log hpq h).mono fun u hu => (hfr u).1 hu

/-! ### Blocks one behind the other -/
def shiftPB (s : Int) : List PB → List PB
  | [] => []
  | y :: l => y.to s :: shiftPB (s + (y.b.ws.length + 1)) l
theorem shiftPB_map (s : Int) (l : List PB) : (shiftPB s l).map PB.b = shift s (l.map PB.b) := by
  induction l generalizing s with
  | nil => rfl
  | cons y l ih => simp only [shiftPB, List.map_cons, shift, ih]; rfl
theorem shiftPB_append (s : Int) (a b : List PB) : shiftPB s (a ++ b) = shiftPB s a ++ shiftPB (s + bused (a.map PB.b)) b := by
  induction a generalizing s with
  | nil => simp [shiftPB, bused]
  | cons y a ih =>
    simp only [List.cons_append, shiftPB, ih, List.map_cons, bused_cons]
    rw [Int.add_assoc]
theorem shift_append (s : Int) (a b : List Bk) : shift s (a ++ b) = shift s a ++ shift (s + bused a) b := by
  induction a generalizing s with
  | nil => simp [shift, bused]
  | cons y a ih =>
    simp only [List.cons_append, shift, ih, bused_cons]
    rw [Int.add_assoc]
theorem shift_length (s : Int) (l : List Bk) : (shift s l).length = l.length := by
  induction l generalizing s with
  | nil => rfl
  | cons b l ih => simp [shift, ih]
theorem shift_used (s : Int) (l : List Bk) : bused (shift s l) = bused l := by
  induction l generalizing s with
  | nil => rfl
  | cons b l ih => simp only [shift, bused_cons, ih]
theorem shift_dense (s : Int) (l : List Bk) : Dense s (shift s l) := by
  induction l generalizing s with
  | nil => trivial
  | cons b l ih => exact ⟨rfl, ih _⟩
theorem shift_self {s : Int} {l : List Bk} (h : Dense s l) : shift s l = l := by
  induction l generalizing s with
  | nil => rfl
  | cons b l ih =>
    obtain ⟨h1, h2⟩ := h
    subst h1; simp only [shift, ih h2]

/-- The same blocks at other addresses. -/
def Mv : List PB → List PB → Prop
  | [], [] => True
  | a :: l, b :: m => (b.p = a.p ∧ b.arr = a.arr ∧ b.b.ws = a.b.ws) ∧ Mv l m
  | _, _ => False
theorem Mv.refl : (l : List PB) → Mv l l
  | [] => trivial
  | a :: l => ⟨⟨rfl, rfl, rfl⟩, Mv.refl l⟩
theorem Mv.append {a b c d : List PB} (h : Mv a b) (k : Mv c d) : Mv (a ++ c) (b ++ d) := by
  induction a generalizing b with
  | nil => cases b with
    | nil => exact k
    | cons y b => exact h.elim
  | cons x a ih => cases b with
    | nil => exact h.elim
    | cons y b => exact ⟨h.1, ih h.2⟩
theorem Mv.shift (s : Int) (l : List PB) : Mv l (shiftPB s l) := by
  induction l generalizing s with
  | nil => trivial
  | cons y l ih => exact ⟨⟨rfl, rfl, rfl⟩, ih _⟩
theorem Mv.get {a b : List PB} (h : Mv a b) (hn : (a.map fun y => y.b.at_).Nodup) {z : PB} (hz : z ∈ a) : ∃ y ∈ b, y.p = z.p ∧ y.arr = z.arr ∧ y.b.ws = z.b.ws ∧ mvTo (a.map PB.b) (b.map PB.b) z.b.at_ = y.b.at_ := by
  induction a generalizing b with
  | nil => cases hz
  | cons x a ih => cases b with
    | nil => exact h.elim
    | cons y b =>
      rw [List.map_cons, List.nodup_cons] at hn
      rcases List.mem_cons.1 hz with e | hz
      · subst e
        exact ⟨y, by simp, h.1.1, h.1.2.1, h.1.2.2, by simp [mvTo]⟩
      · obtain ⟨y', h1, h2, h3, h4, h5⟩ := ih h.2 hn.2 hz
        refine ⟨y', List.mem_cons_of_mem _ h1, h2, h3, h4, ?_⟩
        have : x.b.at_ ≠ z.b.at_ := fun e => hn.1 (by rw [e]; exact List.mem_map_of_mem (f := fun y : PB => y.b.at_) hz)
        rw [← h5]
        simp [mvTo, this]
theorem Mv.back {a b : List PB} (h : Mv a b) {y : PB} (hy : y ∈ b) : ∃ z ∈ a, y.p = z.p ∧ y.arr = z.arr ∧ y.b.ws = z.b.ws := by
  induction a generalizing b with
  | nil => cases b with
    | nil => cases hy
    | cons y b => exact h.elim
  | cons x a ih => cases b with
    | nil => exact h.elim
    | cons y' b =>
      rcases List.mem_cons.1 hy with e | hy
      · subst e; exact ⟨x, by simp, h.1⟩
      · obtain ⟨z, h1, h2⟩ := ih h.2 hy
        exact ⟨z, List.mem_cons_of_mem _ h1, h2⟩
theorem refW_a {u : Wd} (h : refW u ≠ 0) : refW u = u.a := by
  unfold refW at h ⊢; split at h
  · rename_i h1; rw [if_pos h1]
  · exact (h rfl).elim

/-- What is written when all blocks lie where they shall. -/
theorem Half.fp {w0 : World} {x0 : PH} {W : World} {base : Nat} {x1 : PH} (hf : Half w0 x0 W base x1 []) (hav : x1.av = x0.av) (hrv : x1.rv = x0.rv ∨ ∃ r, x1.rv = .map (some r) ∧ w0.heap.size ≤ r) (k : Nat) (hk : x1.fp k) : x0.fp k ∨ w0.heap.size ≤ k := by
  have hsub : ∀ y ∈ x1.all, ∃ z ∈ x0.all, z.p = y.p ∧ z.arr = y.arr := fun y hy => hf.sub y (by simpa using hy)
  rcases hk with e | e | e | e | e | e | e
  · exact .inl (.inl (e.trans hf.hp))
  · exact .inr (hf.yown k e.symm)
  · exact (hf.oown k e.symm).imp (fun h => .inr (.inr (.inl h))) id
  · exact .inl (.inr (.inr (.inr (.inl (hav ▸ e)))))
  · rcases hrv with h | ⟨r, h1, h2⟩
    · exact .inl (.inr (.inr (.inr (.inr (.inl (h ▸ e))))))
    · rw [e] at h1; injection h1 with h1; injection h1 with h1; subst h1; exact .inr h2
  · obtain ⟨y, hy, rfl⟩ := List.mem_map.1 e
    obtain ⟨z, hz, e1, e2⟩ := hsub y hy
    exact .inl (.inr (.inr (.inr (.inr (.inr (.inl (by rw [← e1]; exact List.mem_map_of_mem hz)))))))
  · obtain ⟨y, hy, rfl⟩ := List.mem_map.1 e
    obtain ⟨z, hz, e1, e2⟩ := hsub y hy
    exact .inl (.inr (.inr (.inr (.inr (.inr (.inr (by rw [← e2]; exact List.mem_map_of_mem hz)))))))
theorem HalfS.fp {x : PH} {k : Nat} (h : HalfS x k) : x.fp k := by
  rcases h with h | h | h
  · exact .inl h
  · exact .inr (.inr (.inr (.inr (.inr (.inl h)))))
  · exact .inr (.inr (.inl h))
theorem Half.map_keep {w0 : World} {x0 : PH} {W : World} {base b0 : Nat} {x1 : PH} {pend : List PB} (h0 : HRep w0 b0 x0) (hf : Half w0 x0 W base x1 pend) {m : Nat} {es : Array MapEntry} {ck : Nat} (hm : w0.heap[m]? = some (.map es ck)) : W.heap[m]? = some (.map es ck) := by
  refine (hf.kp.block m (Array.getElem?_eq_some_iff.1 hm).1 ?_).trans hm
  rintro (e | e | e)
  · subst e; have := h0.blk; unfold Blk at this; rw [hm] at this; cases this
  · obtain ⟨y, hy, e⟩ := List.mem_map.1 e
    subst e; have := (h0.pbs y hy).st; unfold Blk at this; rw [hm] at this; cases this
  · obtain ⟨cur, hc⟩ := ownsRow_type h0.orow e.symm
    unfold Blk at hc; rw [hm] at hc; cases hc
theorem Mid.of {w0 : World} {x0 : PH} {W : World} {base : Nat} {x1 : PH} (h0 : HRep w0 base x0) (hf : Half w0 x0 W base x1 []) (hav : x1.av = x0.av) (hrv : x1.rv = x0.rv ∨ ∃ r, x1.rv = .map (some r) ∧ w0.heap.size ≤ r)
    (hrm : ∃ es clock, MapV W x1.rv es clock ∧ IntEs es clock ∧ ∀ k, esGet es.toList k = if k ∈ x1.R then some (.bool true) else none)
    {L0 L1 : List PB} (hmv : Mv L0 L1) (hL1 : ∀ y, y ∈ x1.all ↔ y ∈ L1) (hL0 : ∀ y ∈ L0, y ∈ x0.all) (hats : (L0.map fun y => y.b.at_).Nodup)
    (hcl : ∀ y ∈ L0, ∀ u ∈ y.b.ws, refW u ≠ 0 → ∃ z ∈ L0, x0.find (refW u) = some z) :
    ∃ es ck, Mid W base x1 es ck (mvTo (L0.map PB.b) (L1.map PB.b)) ∧ ∀ u, refW u ≠ 0 → (∃ z ∈ L0, x0.find (refW u) = some z) → ∃ z ∈ x1.all, esGet es.toList u.a = some z.ptr ∧ mvTo (L0.map PB.b) (L1.map PB.b) u.a = z.b.at_ := by
  obtain ⟨es, ck, hm, he, hg⟩ := h0.amap
  have href : ∀ u, refW u ≠ 0 → (∃ z ∈ L0, x0.find (refW u) = some z) → ∃ z ∈ x1.all, esGet es.toList u.a = some z.ptr ∧ mvTo (L0.map PB.b) (L1.map PB.b) u.a = z.b.at_ := by
    rintro u hu ⟨z, hz, hfz⟩
    rw [refW_a hu] at hfz
    obtain ⟨y, hy, e1, e2, e3, e4⟩ := hmv.get hats hz
    refine ⟨y, (hL1 y).2 hy, ?_, ?_⟩
    · rw [hg]; unfold atOf; unfold PH.find at hfz; rw [hfz]; simp [PB.ptr, e1]
    · rw [← (PH.find_mem hfz).2]; exact e4
  refine ⟨es, ck, ?_, href⟩
  exact
    { blk := hf.blk, yrow := hf.yrow, orow := hf.orow, rows := hf.rows
      amap := by
        rw [hav]
        rcases hm with hm | ⟨m, hm1, hm2⟩
        · exact .inl hm
        · exact .inr ⟨m, hm1, hf.map_keep h0 hm2⟩
      keys := he.key
      rmap := hrm
      pbs := fun y hy => hf.pbs y (by simpa using hy)
      ps := by have := hf.ps; simpa using this
      arrs := arrs_of h0.arrs (by have := hf.ps; simpa using this) fun y hy => hf.sub y (by simpa using hy)
      base_ := fun k hk => (hf.fp hav hrv k hk).elim (h0.base_ k) fun h => Nat.le_trans hf.base_ h
      ok := hf.ok
      ref := fun y hy u hu hr => by
        obtain ⟨z, hz, _, _, e3⟩ := hmv.back ((hL1 y).1 hy)
        exact href u hr (hcl z hz u (e3 ▸ hu) hr) }
end Go.Proofs.Ytikigppfnhilhaa
