/- What holds of a heap at all times (plain law, no program). -/
import Derived.Test.YtikigppfnhilhaaGPD21
/- What holds of a heap at all times (plain law, no program). -/
namespace Go.Proofs.Ytikigppfnhilhaa
open Go.RowKit Go.Instr
set_option linter.unusedVariables false
set_option linter.unusedSimpArgs false

/-- The numbers of a heap. -/
structure LOk (h : LH) : Prop where
  Y0 : 0 ≤ h.Y
  O0 : 0 ≤ h.O
  uy : bused h.yb ≤ h.Y
  uo : bused h.ob ≤ h.O
  dy : Dense 1 h.yb
  do_ : Dense (h.Y + 1) h.ob
theorem PH.Ok.lok {x : PH} (h : x.Ok) : LOk x.log := ⟨h.Y0, h.O0, by have := h.yu; have := h.yu1; show bused (x.yb.map PB.b) ≤ x.Y; omega, by have := h.ou; have := h.ou1; show bused (x.ob.map PB.b) ≤ x.O; omega, h.dy, h.do_⟩
theorem LOk.ats {h : LH} (k : LOk h) : (h.all.map Bk.at_).Nodup := by
  unfold LH.all
  rw [List.map_append]
  refine List.nodup_append.2 ⟨k.dy.nodup, k.do_.nodup, ?_⟩
  intro a ha b hb e
  obtain ⟨c, hc, rfl⟩ := List.mem_map.1 ha
  obtain ⟨d, hd, rfl⟩ := List.mem_map.1 hb
  have := k.dy.mem hc; have := k.do_.mem hd; have := k.uy; omega
theorem LH.find_mem {h : LH} {k : Int} {b : Bk} (hf : h.find k = some b) : b ∈ h.all ∧ b.at_ = k :=
  ⟨List.mem_of_find?_eq_some hf, by simpa using List.find?_some hf⟩
theorem LOk.find {h : LH} (k : LOk h) {b : Bk} (hb : b ∈ h.all) : h.find b.at_ = some b := find_nodup (g := Bk.at_) k.ats hb
theorem bad_iff {h : LH} {u : Wd} : h.bad u = false ↔ (refW u ≠ 0 → ∃ b ∈ h.all, b.at_ = refW u) := by
  unfold LH.bad
  by_cases hz : refW u = 0
  · simp [hz]
  · have hz' : (refW u != 0) = true := by simpa using hz
    rw [hz', Bool.true_and]
    cases hf : h.find (refW u) with
    | some b => simp; exact fun _ => ⟨b, (LH.find_mem hf).1, (LH.find_mem hf).2⟩
    | none =>
      simp
      refine ⟨hz, fun b hb e => ?_⟩
      unfold LH.find at hf
      rw [List.find?_eq_none] at hf
      have := hf b hb; simp at this; exact this e
theorem refW_wd0 : refW wd0 = 0 := rfl

theorem LInv.new (y o : Int) : LInv ⟨y, o, [], [], []⟩ := ⟨fun b hb => (by cases hb), fun k hk => (by cases hk), fun b hb => (by cases hb)⟩
theorem LInv.alloc {h : LH} (hi : LInv h) (kind size : Int) : LInv (h.alloc kind size).1 := by
  have key : ∀ (h' : LH) (nb : Bk), (∀ u ∈ nb.ws, refW u = 0) → (∀ b, b ∈ h'.all ↔ b ∈ h.all ∨ b = nb) → (∀ b ∈ h.ob, b ∈ h'.ob) → (∀ b ∈ h'.ob, b ∈ h.ob ∨ b = nb) → h'.R = h.R → h'.Y = h.Y → LInv h' := by
    intro h' nb hz hall ho1 ho2 hR hY
    have hbad : ∀ u, h.bad u = false → h'.bad u = false := fun u hu => bad_iff.2 fun hr => by
      obtain ⟨b, hb, e⟩ := bad_iff.1 hu hr
      exact ⟨b, (hall b).2 (.inl hb), e⟩
    refine ⟨fun b hb u hu => ?_, fun k hk => ?_, fun b hb u hu hr hY' => ?_⟩
    · rcases (hall b).1 hb with hb | rfl
      · exact hbad u (hi.ref b hb u hu)
      · exact bad_iff.2 fun hr => (hr (hz u hu)).elim
    · rw [hR] at hk
      obtain ⟨b, hb, e⟩ := hi.rem k hk
      exact ⟨b, ho1 b hb, e⟩
    · rw [hR]
      rcases ho2 b hb with hb | rfl
      · exact hi.mem b hb u hu hr (by rw [← hY]; exact hY')
      · exact (hr (hz u hu)).elim
  have hrep : ∀ u ∈ List.replicate size.toNat wd0, refW u = 0 := fun u hu => by rw [(List.mem_replicate.1 hu).2]; rfl
  unfold LH.alloc
  split
  · exact hi
  · split
    · split
      · refine key _ ⟨1 + bused h.yb, kind, List.replicate size.toNat wd0⟩ hrep (fun b => ?_) (fun b hb => hb) (fun b hb => .inl hb) rfl rfl
        simp only [LH.all, List.mem_append, List.mem_singleton]
        constructor
        · rintro ((h | h) | h) <;> simp [h]
        · rintro ((h | h) | h) <;> simp [h]
      · exact hi
    · split
      · refine key _ ⟨h.Y + 1 + bused h.ob, kind, List.replicate size.toNat wd0⟩ hrep (fun b => ?_) (fun b hb => List.mem_append_left _ hb) (fun b hb => by simpa using hb) rfl rfl
        simp only [LH.all, List.mem_append, List.mem_singleton]
        constructor
        · rintro (h | (h | h)) <;> simp [h]
        · rintro ((h | h) | h) <;> simp [h]
      · exact hi

/-! ### Moved blocks -/
def MvL : List Bk → List Bk → Prop
  | [], [] => True
  | a :: l, b :: m => (b.kind = a.kind ∧ b.ws = a.ws) ∧ MvL l m
  | _, _ => False
theorem MvL.refl : (l : List Bk) → MvL l l
  | [] => trivial
  | a :: l => ⟨⟨rfl, rfl⟩, MvL.refl l⟩
theorem MvL.append {a b c d : List Bk} (h : MvL a b) (k : MvL c d) : MvL (a ++ c) (b ++ d) := by
  induction a generalizing b with
  | nil => cases b with
    | nil => exact k
    | cons y b => exact h.elim
  | cons x a ih => cases b with
    | nil => exact h.elim
    | cons y b => exact ⟨h.1, ih h.2⟩
theorem MvL.shift (s : Int) (l : List Bk) : MvL l (shift s l) := by
  induction l generalizing s with
  | nil => trivial
  | cons y l ih => exact ⟨⟨rfl, rfl⟩, ih _⟩
theorem MvL.length {a b : List Bk} (h : MvL a b) : a.length = b.length := by
  induction a generalizing b with
  | nil => cases b with
    | nil => rfl
    | cons y b => exact h.elim
  | cons x a ih => cases b with
    | nil => exact h.elim
    | cons y b => simp [ih h.2]
theorem MvL.get {a b : List Bk} (h : MvL a b) (hn : (a.map Bk.at_).Nodup) {z : Bk} (hz : z ∈ a) : ∃ y ∈ b, y.kind = z.kind ∧ y.ws = z.ws ∧ mvTo a b z.at_ = y.at_ := by
  induction a generalizing b with
  | nil => cases hz
  | cons x a ih => cases b with
    | nil => exact h.elim
    | cons y b =>
      rw [List.map_cons, List.nodup_cons] at hn
      rcases List.mem_cons.1 hz with e | hz
      · subst e
        exact ⟨y, by simp, h.1.1, h.1.2, by simp [mvTo]⟩
      · obtain ⟨y', h1, h2, h3, h5⟩ := ih h.2 hn.2 hz
        refine ⟨y', List.mem_cons_of_mem _ h1, h2, h3, ?_⟩
        have : x.at_ ≠ z.at_ := fun e => hn.1 (by rw [e]; exact List.mem_map_of_mem hz)
        rw [← h5]
        simp [mvTo, this]
theorem MvL.back {a b : List Bk} (h : MvL a b) (hn : (a.map Bk.at_).Nodup) {y : Bk} (hy : y ∈ b) : ∃ z ∈ a, y.kind = z.kind ∧ y.ws = z.ws ∧ mvTo a b z.at_ = y.at_ := by
  induction a generalizing b with
  | nil => cases b with
    | nil => cases hy
    | cons y b => exact h.elim
  | cons x a ih => cases b with
    | nil => exact h.elim
    | cons y' b =>
      rw [List.map_cons, List.nodup_cons] at hn
      rcases List.mem_cons.1 hy with e | hy
      · subst e; exact ⟨x, by simp, h.1.1, h.1.2, by simp [mvTo]⟩
      · obtain ⟨z, h1, h2, h3, h5⟩ := ih h.2 hn.2 hy
        refine ⟨z, List.mem_cons_of_mem _ h1, h2, h3, ?_⟩
        have : x.at_ ≠ z.at_ := fun e => hn.1 (by rw [e]; exact List.mem_map_of_mem h1)
        rw [← h5]
        simp [mvTo, this]
theorem refW_mvW {f : Int → Int} {u : Wd} (hr : refW u ≠ 0) : refW (mvW f u) = f (refW u) := by
  have h1 : u.tag = 1 := by
    unfold refW at hr
    by_cases h : u.tag = 1
    · exact h
    · rw [if_neg h] at hr; exact (hr rfl).elim
  rw [refW_a hr]
  unfold mvW; rw [if_neg hr]; unfold refW; simp only []; rw [if_pos h1]
theorem refW_mvW_zero {f : Int → Int} {u : Wd} (hr : refW u = 0) : mvW f u = u := by unfold mvW; rw [if_pos hr]
theorem moved_ref {a b : List Bk} (h : MvL a b) (hn : (a.map Bk.at_).Nodup) (hcl : ∀ z ∈ a, ∀ u ∈ z.ws, refW u ≠ 0 → ∃ t ∈ a, t.at_ = refW u) :
    ∀ y ∈ b.map (mvB (mvTo a b)), ∀ u ∈ y.ws, refW u ≠ 0 → ∃ t ∈ b.map (mvB (mvTo a b)), t.at_ = refW u := by
  intro y hy u hu hr
  obtain ⟨y0, hy0, rfl⟩ := List.mem_map.1 hy
  obtain ⟨u0, hu0, rfl⟩ := List.mem_map.1 (show u ∈ y0.ws.map (mvW (mvTo a b)) from hu)
  have hr0 : refW u0 ≠ 0 := fun e => hr (by rw [refW_mvW_zero e]; exact e)
  obtain ⟨z, hz, _, hw, _⟩ := h.back hn hy0
  obtain ⟨t, ht, et⟩ := hcl z hz u0 (hw ▸ hu0) hr0
  obtain ⟨t', ht', _, _, e'⟩ := h.get hn ht
  refine ⟨mvB (mvTo a b) t', List.mem_map_of_mem ht', ?_⟩
  rw [refW_mvW hr0, ← et, e']; rfl

/-! ### What the collections keep -/
theorem minor_closedL {h : LH} (k : LOk h) (hi : LInv h) {roots : List Wd} {u : Wd} (hu : refW u ≠ 0) (hb : h.bad u = false)
    (hsrc : u ∈ roots ∨ ∃ b ∈ h.ob ++ h.liveY roots, u ∈ b.ws) : ∃ z ∈ h.ob ++ h.liveY roots, h.find (refW u) = some z := by
  obtain ⟨z, hz, ez⟩ := bad_iff.1 hb hu
  have hfz : h.find (refW u) = some z := by rw [← ez]; exact k.find hz
  refine ⟨z, ?_, hfz⟩
  rcases List.mem_append.1 hz with hzy | hzo
  · have hzY : h.isY z = true := by have := k.dy.mem hzy; have := k.uy; simp [LH.isY]; omega
    refine List.mem_append_right _ (List.mem_filter.2 ⟨hzy, LH.keep_iff.2 ?_⟩)
    rcases hsrc with hr | ⟨b, hb, hub⟩
    · exact .root (List.mem_append_left _ hr) hfz hzY
    · rcases List.mem_append.1 hb with hbo | hbl
      · refine .root (List.mem_append_right _ (remOf_mem.2 ⟨b.at_, hi.mem b hbo u hub hu ?_, b, k.find (List.mem_append_right _ hbo), hub⟩)) hfz hzY
        rw [← ez]; have := k.dy.mem hzy; have := k.uy; omega
      · obtain ⟨_, hkb⟩ := List.mem_filter.1 hbl
        exact .step (LH.keep_iff.1 hkb) hub hfz hzY
  · exact List.mem_append_left _ hzo
theorem fits_append (room : Int) (l : List Bk) : (fits room l).1 ++ (fits room l).2 = l := by
  induction l generalizing room with
  | nil => rfl
  | cons y l ih =>
    simp only [fits]
    split
    · simp [ih]
    · rfl
theorem major_kept {h : LH} {roots : List Wd} {b : Bk} : b ∈ h.keptO roots ++ (h.fit roots).1 ++ (h.fit roots).2 ↔ b ∈ h.all ∧ LRch h.find (fun _ => true) roots b := by
  rw [List.append_assoc]
  unfold LH.fit
  rw [fits_append, List.mem_append]
  unfold LH.keptO LH.keptY LH.all
  rw [List.mem_filter, List.mem_filter, LH.keep_iff, List.mem_append]
  constructor
  · rintro (⟨h1, h2⟩ | ⟨h1, h2⟩)
    · exact ⟨.inr h1, h2⟩
    · exact ⟨.inl h1, h2⟩
  · rintro ⟨h1 | h1, h2⟩
    · exact .inr ⟨h1, h2⟩
    · exact .inl ⟨h1, h2⟩
theorem major_closedL {h : LH} (k : LOk h) {roots : List Wd} {u : Wd} (hu : refW u ≠ 0) (hb : h.bad u = false)
    (hsrc : u ∈ roots ∨ ∃ b ∈ h.keptO roots ++ (h.fit roots).1 ++ (h.fit roots).2, u ∈ b.ws) : ∃ z ∈ h.keptO roots ++ (h.fit roots).1 ++ (h.fit roots).2, h.find (refW u) = some z := by
  obtain ⟨z, hz, ez⟩ := bad_iff.1 hb hu
  have hfz : h.find (refW u) = some z := by rw [← ez]; exact k.find hz
  refine ⟨z, major_kept.2 ⟨hz, ?_⟩, hfz⟩
  rcases hsrc with hr | ⟨b, hb, hub⟩
  · exact .root hr hfz rfl
  · exact .step (major_kept.1 hb).2 hub hfz rfl
theorem minor_ats {h : LH} (k : LOk h) (roots : List Wd) : ((h.ob ++ h.liveY roots).map Bk.at_).Nodup := by
  have hsub : (h.liveY roots ++ h.ob).Sublist h.all := List.Sublist.append_right List.filter_sublist _
  have := k.ats.sublist (hsub.map Bk.at_)
  exact ((List.perm_append_comm (l₁ := h.ob) (l₂ := h.liveY roots)).map Bk.at_).nodup_iff.2 this
theorem major_ats {h : LH} (k : LOk h) (roots : List Wd) : ((h.keptO roots ++ (h.fit roots).1 ++ (h.fit roots).2).map Bk.at_).Nodup := by
  rw [List.append_assoc]
  unfold LH.fit
  rw [fits_append]
  have hsub : (h.keptY roots ++ h.keptO roots).Sublist h.all := List.Sublist.append List.filter_sublist List.filter_sublist
  have := k.ats.sublist (hsub.map Bk.at_)
  exact ((List.perm_append_comm (l₁ := h.keptO roots) (l₂ := h.keptY roots)).map Bk.at_).nodup_iff.2 this
theorem minor_mv (h : LH) (roots : List Wd) : MvL (h.ob ++ h.liveY roots) (h.ob ++ shift (h.Y + 1 + bused h.ob) (h.liveY roots)) := (MvL.refl _).append (MvL.shift _ _)
theorem major_mv (h : LH) (roots : List Wd) : MvL (h.keptO roots ++ (h.fit roots).1 ++ (h.fit roots).2) (h.newO roots ++ h.newY roots) := (MvL.shift _ _).append (MvL.shift _ _)
theorem dense_mvB {f : Int} {g : Int → Int} {l : List Bk} (h : Dense f l) : Dense f (l.map (mvB g)) := by
  induction l generalizing f with
  | nil => trivial
  | cons b l ih => exact ⟨h.1, by have := ih h.2; simpa [mvB] using this⟩
theorem minor_dense {h : LH} (k : LOk h) (roots : List Wd) : Dense (h.Y + 1) (h.ob ++ shift (h.Y + 1 + bused h.ob) (h.liveY roots)) := Dense.append.2 ⟨k.do_, shift_dense _ _⟩

theorem LInv.minor {h : LH} (k : LOk h) (hi : LInv h) (roots : List Wd) : LInv (h.minor roots).1 := by
  unfold LH.minor
  split
  · exact hi
  · split
    · exact hi
    · have href := moved_ref (minor_mv h roots) (minor_ats k roots) fun z hz u hu hr => by
        have hzm : z ∈ h.all := by
          rcases List.mem_append.1 hz with hz | hz
          · exact List.mem_append_right _ hz
          · exact List.mem_append_left _ (List.mem_filter.1 hz).1
        obtain ⟨t, ht, hf⟩ := minor_closedL k hi (roots := roots) hr (hi.ref z hzm u hu) (.inr ⟨z, hz, hu⟩)
        exact ⟨t, ht, (LH.find_mem hf).2⟩
      refine ⟨fun b hb u hu => bad_iff.2 fun hr => ?_, fun k hk => (by cases hk), fun b hb u hu hr hY => ?_⟩
      · exact href b hb u hu hr
      · obtain ⟨t, ht, et⟩ := href b hb u hu hr
        have := (dense_mvB (g := h.minorF roots) (minor_dense k roots)).mem ht
        have hY' : refW u ≤ h.Y := hY
        omega
theorem LInv.major {h : LH} (k : LOk h) (hi : LInv h) (roots : List Wd) : LInv (h.major roots).1 := by
  unfold LH.major
  split
  · exact hi
  · have href := moved_ref (major_mv h roots) (major_ats k roots) fun z hz u hu hr => by
      obtain ⟨t, ht, hf⟩ := major_closedL k (roots := roots) hr (hi.ref z (major_kept.1 hz).1 u hu) (.inr ⟨z, hz, hu⟩)
      exact ⟨t, ht, (LH.find_mem hf).2⟩
    have hall : ∀ b, b ∈ ((h.newO roots ++ h.newY roots).map (mvB (h.majorF roots))) ↔ b ∈ (h.newY roots).map (mvB (h.majorF roots)) ++ (h.newO roots).map (mvB (h.majorF roots)) := fun b => by
      rw [List.map_append, List.mem_append, List.mem_append, or_comm]
    refine ⟨fun b hb u hu => bad_iff.2 fun hr => ?_, fun k hk => ?_, fun b hb u hu hr hY => ?_⟩
    · obtain ⟨t, ht, et⟩ := href b ((hall b).2 hb) u hu hr
      exact ⟨t, (hall t).1 ht, et⟩
    · obtain ⟨b, hb, e⟩ := List.mem_map.1 hk
      exact ⟨b, (List.mem_filter.1 hb).1, e⟩
    · refine List.mem_map_of_mem (List.mem_filter.2 ⟨hb, ?_⟩)
      unfold LH.toY
      exact List.any_eq_true.2 ⟨u, hu, by simpa using ⟨hr, hY⟩⟩

/-! ### A store -/
theorem stored_log {x : PH} {k i : Int} {u : Wd} {y : PB} (hf : x.find k = some y) : (x.stored k i u).all = x.all.map (setPB y.p i.toNat u) ∧ (x.stored k i u).ob = x.ob.map (setPB y.p i.toNat u) ∧ (x.stored k i u).R = if x.marks y u then insR k x.R else x.R := by
  unfold PH.stored; rw [hf]; exact ⟨PH.setWord_all x y.p i.toNat u, rfl, rfl⟩
theorem setPB_mem {p i : Nat} {u v : Wd} {z : PB} (h : v ∈ (setPB p i u z).b.ws) : v ∈ z.b.ws ∨ (v = u ∧ z.p = p) := by
  unfold setPB PB.set at h
  split at h
  · rename_i e
    rcases List.mem_or_eq_of_mem_set h with h | h
    · exact .inl h
    · exact .inr ⟨h, e⟩
  · exact .inl h
theorem LInv.store {x : PH} (hok : x.Ok) (hps : (x.all.map PB.p).Nodup) (hi : LInv x.log) (k i : Int) (u : Wd) (he : x.storeE k i u = 0) : LInv (x.stored k i u).log := by
  unfold PH.storeE at he
  cases hf : x.find k with
  | none => rw [hf] at he; simp at he
  | some y =>
    rw [hf] at he
    simp only [] at he
    have hy := (PH.find_mem hf).1
    have hk := (PH.find_mem hf).2
    have hr : refW u ≠ 0 → ∃ t, x.find (refW u) = some t := fun hr => by
      split at he
      · try rw [if_neg hr] at he
        cases ht : x.find (refW u) with
        | none => rw [ht] at he; simp at he
        | some t => exact ⟨t, rfl⟩
      · simp at he
    obtain ⟨hall, hob, hR⟩ := stored_log (i := i) (u := u) hf
    have hbad : ∀ v, x.log.bad v = false → (x.stored k i u).log.bad v = false := fun v hv => bad_iff.2 fun hr => by
      obtain ⟨b, hb, e⟩ := bad_iff.1 hv hr
      rw [log_all] at hb ⊢
      obtain ⟨z, hz, rfl⟩ := List.mem_map.1 hb
      rw [hall]
      exact ⟨(setPB y.p i.toNat u z).b, List.mem_map_of_mem (List.mem_map_of_mem hz), by rw [setPB_at]; exact e⟩
    have hnew : refW u ≠ 0 → ∃ b ∈ x.log.all, b.at_ = refW u := fun h => by
      obtain ⟨t, ht⟩ := hr h
      exact ⟨t.b, by rw [log_all]; exact List.mem_map_of_mem (PH.find_mem ht).1, (PH.find_mem ht).2⟩
    have hY : (x.stored k i u).log.Y = x.Y := by unfold PH.stored; rw [hf]; rfl
    refine ⟨fun b hb v hv => ?_, fun j hj => ?_, fun b hb v hv hr0 hv0 => ?_⟩
    · rw [log_all, hall] at hb
      obtain ⟨z', hz', rfl⟩ := List.mem_map.1 hb
      obtain ⟨z, hz, rfl⟩ := List.mem_map.1 hz'
      rcases setPB_mem hv with h | ⟨rfl, _⟩
      · exact hbad v (hi.ref z.b (by rw [log_all]; exact List.mem_map_of_mem hz) v h)
      · exact hbad _ (bad_iff.2 hnew)
    · have hj' : j ∈ (x.stored k i u).R := hj
      rw [hR] at hj'
      have hob' : (x.stored k i u).log.ob = (x.ob.map (setPB y.p i.toNat u)).map PB.b := by rw [← hob]; rfl
      have hold : j ∈ x.R → ∃ b ∈ (x.stored k i u).log.ob, b.at_ = j := fun hj => by
        obtain ⟨b, hb, e⟩ := hi.rem j hj
        obtain ⟨z, hz, rfl⟩ := List.mem_map.1 (show b ∈ x.ob.map PB.b from hb)
        rw [hob']
        exact ⟨(setPB y.p i.toNat u z).b, List.mem_map_of_mem (List.mem_map_of_mem hz), by rw [setPB_at]; exact e⟩
      split at hj'
      · rename_i hm
        rcases (mem_insR k j x.R).1 hj' with rfl | hj'
        · have hyo : y ∈ x.ob := by
            rcases List.mem_append.1 hy with h | h
            · have := hok.dy.mem (List.mem_map_of_mem (f := PB.b) h); have := hok.yu; have := hok.yu1
              unfold PH.marks at hm
              simp at hm; omega
            · exact h
          rw [hob']
          exact ⟨(setPB y.p i.toNat u y).b, List.mem_map_of_mem (List.mem_map_of_mem hyo), by rw [setPB_at]; exact hk⟩
        · exact hold hj'
      · exact hold hj'
    · rw [hY] at hv0
      show b.at_ ∈ (x.stored k i u).R
      rw [hR]
      have hb' : b ∈ (x.stored k i u).ob.map PB.b := hb
      rw [hob] at hb'
      obtain ⟨z', hz', rfl⟩ := List.mem_map.1 hb'
      obtain ⟨z, hz, rfl⟩ := List.mem_map.1 hz'
      rw [setPB_at]
      rcases setPB_mem hv with h | ⟨rfl, hp⟩
      · have := hi.mem z.b (List.mem_map_of_mem hz) v h hr0 hv0
        have this : z.b.at_ ∈ x.R := this
        split
        · exact (mem_insR _ _ _).2 (.inr this)
        · exact this
      · have hzy : z = y := inj_of_nodup hps (List.mem_append_right _ hz) hy hp
        subst hzy
        obtain ⟨t, ht⟩ := hr hr0
        have hm : x.marks z v = true := by
          have h1 := hok.do_.mem (List.mem_map_of_mem (f := PB.b) hz)
          have h2 := (PH.find_mem ht).2
          unfold PH.marks; rw [ht]; simp; exact ⟨⟨hr0, by omega⟩, by omega⟩
        rw [if_pos hm]
        exact (mem_insR _ _ _).2 (.inl hk)
end Go.Proofs.Ytikigppfnhilhaa
