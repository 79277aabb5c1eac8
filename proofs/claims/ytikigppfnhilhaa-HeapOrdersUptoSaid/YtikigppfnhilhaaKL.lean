/- Orders behind a collection, and a second collection (plain). -/
import Derived.Test.YtikigppfnhilhaaKI
namespace Go.Proofs.Ytikigppfnhilhaa
set_option linter.unusedVariables false
set_option linter.unusedSimpArgs false

theorem mvTo_cons_ne {x y : Bk} {a b : List Bk} {k : Int} (h : x.at_ ≠ k) : mvTo (x :: a) (y :: b) k = mvTo a b k := by simp [mvTo, h]
theorem mvTo_cons_eq {x y : Bk} {a b : List Bk} : mvTo (x :: a) (y :: b) x.at_ = y.at_ := by simp [mvTo]
theorem mvTo_shift_l (s : Int) (A C M : List Bk) (hn : ((A ++ C).map Bk.at_).Nodup) {i : Nat} {z : Bk} (hi : A[i]? = some z) : mvTo (A ++ C) (shift s A ++ M) z.at_ = s + bused (A.take i) := by
  induction A generalizing s i with
  | nil => simp at hi
  | cons x A ih =>
    rw [List.cons_append, List.map_cons, List.nodup_cons] at hn
    cases i with
    | zero =>
      simp at hi; subst hi
      show mvTo (x :: (A ++ C)) ({ x with at_ := s } :: (shift (s + (x.ws.length + 1)) A ++ M)) x.at_ = _
      rw [mvTo_cons_eq]; simp [bused]
    | succ i =>
      simp at hi
      have hne : x.at_ ≠ z.at_ := fun e => hn.1 (by rw [e]; exact List.mem_map_of_mem (List.mem_append_left _ (List.mem_of_getElem? hi)))
      show mvTo (x :: (A ++ C)) ({ x with at_ := s } :: (shift (s + (x.ws.length + 1)) A ++ M)) z.at_ = _
      rw [mvTo_cons_ne hne, ih _ hn.2 hi, List.take_succ_cons, bused_cons]; omega
theorem mvTo_shift_r (s : Int) (A C M : List Bk) {k : Int} (hk : k ∉ A.map Bk.at_) : mvTo (A ++ C) (shift s A ++ M) k = mvTo C M k := by
  induction A generalizing s with
  | nil => rfl
  | cons x A ih =>
    rw [List.map_cons, List.mem_cons, not_or] at hk
    show mvTo (x :: (A ++ C)) ({ x with at_ := s } :: (shift (s + (x.ws.length + 1)) A ++ M)) k = _
    rw [mvTo_cons_ne (Ne.symm hk.1), ih _ hk.2]

/-- Orders are kept by f, among the addresses of L. -/
structure OrdF (Y : Int) (f : Int → Int) (L : List Int) : Prop where
  same : ∀ a ∈ L, ∀ b ∈ L, a < b → (a ≤ Y ↔ b ≤ Y) → (f a ≤ Y ↔ f b ≤ Y) → f a < f b
  over : ∀ a ∈ L, ∀ b ∈ L, a ≤ Y → Y < b → Y < f a → f b < f a
theorem sorted_idx {L : List Bk} (h : (L.map Bk.at_).Pairwise (· < ·)) {i j : Nat} {a b : Bk} (ha : L[i]? = some a) (hb : L[j]? = some b) (hab : a.at_ < b.at_) : bused (L.take i) < bused (L.take j) := by
  obtain ⟨hi, ea⟩ := List.getElem?_eq_some_iff.1 ha
  obtain ⟨hj, eb⟩ := List.getElem?_eq_some_iff.1 hb
  have hij : i < j := by
    rcases Nat.lt_trichotomy i j with h1 | h1 | h1
    · exact h1
    · subst h1; rw [ha] at hb; injection hb with hb; subst hb; omega
    · have := List.pairwise_iff_getElem.1 h j i (by simpa using hj) (by simpa using hi) h1
      simp [ea, eb] at this; omega
  have h1 : L.take j = L.take (i + 1) ++ (L.drop (i + 1)).take (j - (i + 1)) := by
    rw [← List.take_add]; congr 1; omega
  rw [h1, bused_append, bused_take_succ ha]
  have := bused_nonneg ((L.drop (i + 1)).take (j - (i + 1))); omega
theorem bused_take_mem {L : List Bk} {i : Nat} {a : Bk} (ha : L[i]? = some a) : bused (L.take i) + (a.ws.length + 1) ≤ bused L := by
  rw [← bused_take_succ ha]; exact bused_take_le _ _
theorem ord_shift {Y : Int} {P Q C : List Bk} (hn : ((P ++ Q ++ C).map Bk.at_).Nodup) (hP : (P.map Bk.at_).Pairwise (· < ·)) (hQ : (Q.map Bk.at_).Pairwise (· < ·)) (hC : (C.map Bk.at_).Pairwise (· < ·))
    (hPY : ∀ z ∈ P, Y < z.at_) (hQY : ∀ z ∈ Q, z.at_ ≤ Y) (hCY : ∀ z ∈ C, z.at_ ≤ Y) (hCu : bused C ≤ Y) :
    OrdF Y (mvTo (P ++ Q ++ C) (shift (Y + 1) (P ++ Q) ++ shift 1 C)) ((P ++ Q ++ C).map Bk.at_) := by
  obtain ⟨f, hf⟩ : ∃ f, mvTo (P ++ Q ++ C) (shift (Y + 1) (P ++ Q) ++ shift 1 C) = f := ⟨_, rfl⟩
  have fP : ∀ (i : Nat) z, P[i]? = some z → f z.at_ = Y + 1 + bused (P.take i) := fun i z hi => by
    have hlt := (List.getElem?_eq_some_iff.1 hi).1
    have := mvTo_shift_l (Y + 1) (P ++ Q) C (shift 1 C) hn (i := i) (z := z) (by rw [List.getElem?_append_left hlt]; exact hi)
    rw [← hf, this, List.take_append_of_le_length (by omega)]
  have fQ : ∀ (i : Nat) z, Q[i]? = some z → f z.at_ = Y + 1 + bused P + bused (Q.take i) := fun i z hi => by
    have := mvTo_shift_l (Y + 1) (P ++ Q) C (shift 1 C) hn (i := P.length + i) (z := z) (by rw [List.getElem?_append_right (by omega), Nat.add_sub_cancel_left]; exact hi)
    rw [← hf, this, List.take_append, List.take_of_length_le (by omega), Nat.add_sub_cancel_left, bused_append]; omega
  have fC : ∀ (i : Nat) z, C[i]? = some z → f z.at_ = 1 + bused (C.take i) := fun i z hi => by
    have hnot : z.at_ ∉ (P ++ Q).map Bk.at_ := fun hm => by
      rw [List.map_append] at hn
      exact (List.nodup_append.1 hn).2.2 _ hm _ (List.mem_map_of_mem (List.mem_of_getElem? hi)) rfl
    have h1 := mvTo_shift_r (Y + 1) (P ++ Q) C (shift 1 C) hnot
    have hnC : ((C ++ []).map Bk.at_).Nodup := by
      rw [List.append_nil]; rw [List.map_append] at hn; exact (List.nodup_append.1 hn).2.1
    have h2 := mvTo_shift_l 1 C [] [] hnC hi
    rw [List.append_nil, List.append_nil] at h2
    rw [← hf, h1, h2]
  rw [hf]
  have cls : ∀ a ∈ (P ++ Q ++ C).map Bk.at_, (∃ (i : Nat) (z : Bk), P[i]? = some z ∧ a = z.at_ ∧ Y < a) ∨ (∃ (i : Nat) (z : Bk), Q[i]? = some z ∧ a = z.at_ ∧ a ≤ Y) ∨ (∃ (i : Nat) (z : Bk), C[i]? = some z ∧ a = z.at_ ∧ a ≤ Y) := fun a ha => by
    obtain ⟨z, hz, rfl⟩ := List.mem_map.1 ha
    rcases List.mem_append.1 hz with hz | hz
    · rcases List.mem_append.1 hz with hz | hz
      · obtain ⟨i, hi⟩ := List.getElem?_of_mem hz; exact .inl ⟨i, z, hi, rfl, hPY z hz⟩
      · obtain ⟨i, hi⟩ := List.getElem?_of_mem hz; exact .inr (.inl ⟨i, z, hi, rfl, hQY z hz⟩)
    · obtain ⟨i, hi⟩ := List.getElem?_of_mem hz; exact .inr (.inr ⟨i, z, hi, rfl, hCY z hz⟩)
  have gP : ∀ i, 0 ≤ bused (P.take i) := fun i => bused_nonneg _
  have gQ : ∀ i, 0 ≤ bused (Q.take i) := fun i => bused_nonneg _
  have gC : ∀ i, 0 ≤ bused (C.take i) := fun i => bused_nonneg _
  have gp := bused_nonneg P
  constructor
  · intro a ha b hb hab hs hs2
    rcases cls a ha with ⟨i, z, hi, rfl, ya⟩ | ⟨i, z, hi, rfl, ya⟩ | ⟨i, z, hi, rfl, ya⟩ <;> rcases cls b hb with ⟨j, t, hj, rfl, yb⟩ | ⟨j, t, hj, rfl, yb⟩ | ⟨j, t, hj, rfl, yb⟩
    · have := sorted_idx hP hi hj hab; rw [fP i z hi, fP j t hj]; omega
    · omega
    · omega
    · omega
    · have := sorted_idx hQ hi hj hab; rw [fQ i z hi, fQ j t hj]; omega
    · have h1 := gQ i; have h2 := bused_take_mem hj; rw [fQ i z hi, fC j t hj] at hs2; omega
    · omega
    · have h1 := gQ j; have h2 := bused_take_mem hi; rw [fC i z hi, fQ j t hj] at hs2; omega
    · have := sorted_idx hC hi hj hab; rw [fC i z hi, fC j t hj]; omega
  · intro a ha b hb ha0 hb0 hfa
    rcases cls a ha with ⟨i, z, hi, rfl, ya⟩ | ⟨i, z, hi, rfl, ya⟩ | ⟨i, z, hi, rfl, ya⟩
    · omega
    · rcases cls b hb with ⟨j, t, hj, rfl, yb⟩ | ⟨j, t, hj, rfl, yb⟩ | ⟨j, t, hj, rfl, yb⟩
      · have h1 := bused_take_mem hj; have h2 := gQ i; rw [fQ i z hi, fP j t hj]; omega
      · omega
      · omega
    · have h2 := bused_take_mem hi; rw [fC i z hi] at hfa; omega

theorem bused_subl {a b : List Bk} (h : a.Sublist b) : bused a ≤ bused b := by
  induction h with
  | slnil => exact Int.le_refl _
  | cons x _ ih => rw [bused_cons]; omega
  | cons_cons x _ ih => rw [bused_cons, bused_cons]; omega
theorem minor_ord {h : LH} (k : LOk h) (roots : List Wd) : OrdF h.Y (h.minorF roots) ((h.ob ++ h.liveY roots).map Bk.at_) := by
  have hn := minor_ats k roots
  have hs : (h.liveY roots).Sublist h.yb := List.filter_sublist
  have := ord_shift (Y := h.Y) (P := h.ob) (Q := h.liveY roots) (C := []) (by rw [List.append_nil]; exact hn) (dense_lt k.do_) ((dense_lt k.dy).sublist (hs.map Bk.at_)) (by simp)
    (fun z hz => by have := k.do_.mem hz; omega) (fun z hz => by have := k.dy.mem (hs.subset hz); have := k.uy; omega) (by simp) (by simpa [bused] using k.Y0)
  rw [shift_append, shift_self k.do_] at this
  simp only [shift, List.append_nil] at this
  exact this
theorem major_ord {h : LH} (k : LOk h) (roots : List Wd) : OrdF h.Y (h.majorF roots) ((h.keptO roots ++ (h.fit roots).1 ++ (h.fit roots).2).map Bk.at_) := by
  have hn := major_ats k roots
  have hs : ((h.fit roots).1 ++ (h.fit roots).2).Sublist h.yb := by
    unfold LH.fit; rw [fits_append]; exact List.filter_sublist
  have ho : (h.keptO roots).Sublist h.ob := List.filter_sublist
  have h1 : (h.fit roots).1.Sublist h.yb := (List.sublist_append_left _ _).trans hs
  have h2 : (h.fit roots).2.Sublist h.yb := (List.sublist_append_right _ _).trans hs
  exact ord_shift (Y := h.Y) hn ((dense_lt k.do_).sublist (ho.map Bk.at_)) ((dense_lt k.dy).sublist (h1.map Bk.at_)) ((dense_lt k.dy).sublist (h2.map Bk.at_))
    (fun z hz => by have := k.do_.mem (ho.subset hz); omega) (fun z hz => by have := k.dy.mem (h1.subset hz); have := k.uy; omega) (fun z hz => by have := k.dy.mem (h2.subset hz); have := k.uy; omega)
    (by have := bused_subl h2; have := k.uy; omega)

/-- A reference without more. -/
def refWd (a : Int) : Wd := ⟨1, a, 0, ⟨#[]⟩, 0, 0⟩
theorem refW_refWd (a : Int) : refW (refWd a) = a := rfl
theorem mvW_refWd {f : Int → Int} {a : Int} (h : a ≠ 0) : mvW f (refWd a) = refWd (f a) := by
  unfold mvW; rw [refW_refWd, if_neg h]; rfl
theorem LOk.pos {h : LH} (k : LOk h) {b : Bk} (hb : b ∈ h.all) : 0 < b.at_ := by
  rcases List.mem_append.1 hb with hh | hh
  · have := k.dy.mem hh; omega
  · have := k.do_.mem hh; have := k.Y0; omega
/-- Roots that are blocks' addresses. -/
theorem few_good {h : LH} {L : List Int} (hL : ∀ a ∈ L, a ∈ h.all.map Bk.at_) : (L.map refWd).any h.bad = false := by
  rw [List.any_eq_false]
  intro v hv
  obtain ⟨a, ha, rfl⟩ := List.mem_map.1 hv
  obtain ⟨b, hb, e⟩ := List.mem_map.1 (hL a ha)
  have : h.bad (refWd a) = false := bad_iff.2 fun _ => ⟨b, hb, e⟩
  simp [this]
/-- What a collection with such roots does to their order. -/
theorem coll_ord {h : LH} (k : LOk h) {L : List Int} (hL : ∀ a ∈ L, a ∈ h.all.map Bk.at_) {major : Bool} (hall : major = false → ∀ a ∈ L, a ≤ h.Y → a ∈ (h.liveY (L.map refWd)).map Bk.at_) (he : (h.coll major (L.map refWd)).2.2 = 0) :
    ∃ f, OrdF h.Y f L ∧ (h.coll major (L.map refWd)).2.1 = (L.map f).map refWd := by
  have hg := few_good hL
  have hpos : ∀ a ∈ L, a ≠ 0 := fun a ha => by
    obtain ⟨b, hb, rfl⟩ := List.mem_map.1 (hL a ha); have := k.pos hb; omega
  have hmap : ∀ f : Int → Int, (L.map refWd).map (mvW f) = (L.map f).map refWd := fun f => by
    rw [List.map_map, List.map_map]
    exact List.map_congr_left fun a ha => mvW_refWd (hpos a ha)
  have hsub : ∀ {f} {K : List Int}, OrdF h.Y f K → (∀ a ∈ L, a ∈ K) → OrdF h.Y f L := fun o hK => ⟨fun a ha b hb => o.same a (hK a ha) b (hK b hb), fun a ha b hb => o.over a (hK a ha) b (hK b hb)⟩
  cases major with
  | true =>
    refine ⟨h.majorF (L.map refWd), hsub (major_ord k _) fun a ha => ?_, ?_⟩
    · obtain ⟨b, hb, rfl⟩ := List.mem_map.1 (hL a ha)
      refine List.mem_map_of_mem (major_kept.2 ⟨hb, .root (u := refWd b.at_) (List.mem_map_of_mem ha) ?_ rfl⟩)
      rw [refW_refWd]; exact k.find hb
    · show (h.major (L.map refWd)).2.1 = _
      unfold LH.major; rw [hg, if_neg (by simp)]; exact hmap _
  | false =>
    refine ⟨h.minorF (L.map refWd), hsub (minor_ord k _) fun a ha => ?_, ?_⟩
    · obtain ⟨b, hb, rfl⟩ := List.mem_map.1 (hL a ha)
      rw [List.map_append, List.mem_append]
      rcases List.mem_append.1 hb with hh | hh
      · exact .inr (hall rfl _ ha (by have := k.dy.mem hh; have := k.uy; omega))
      · exact .inl (List.mem_map_of_mem hh)
    · show (h.minor (L.map refWd)).2.1 = _
      have he' : (h.minor (L.map refWd)).2.2 = 0 := he
      unfold LH.minor at he' ⊢
      rw [hg, if_neg (by simp)] at he' ⊢
      split
      · rename_i hc; rw [if_pos hc] at he'; simp at he'
      · exact hmap _
theorem live_roots {h : LH} (k : LOk h) {L : List Int} (hL : ∀ a ∈ L, a ∈ h.all.map Bk.at_) : ∀ a ∈ L, a ≤ h.Y → a ∈ (h.liveY (L.map refWd)).map Bk.at_ := by
  intro a ha hY
  obtain ⟨b, hb, rfl⟩ := List.mem_map.1 (hL a ha)
  have hy : b ∈ h.yb := by
    rcases List.mem_append.1 hb with hh | hh
    · exact hh
    · have := k.do_.mem hh; omega
  refine List.mem_map_of_mem (List.mem_filter.2 ⟨hy, LH.keep_iff.2 (.root (u := refWd b.at_) (List.mem_append_left _ (List.mem_map_of_mem ha)) ?_ (by simpa [LH.isY] using hY))⟩)
  rw [refW_refWd]; exact k.find hb
/-- Such a collection fails only for want of room. -/
theorem coll_few_err {h : LH} {L : List Int} (hL : ∀ a ∈ L, a ∈ h.all.map Bk.at_) {major : Bool} (he : (h.coll major (L.map refWd)).2.2 ≠ 0) : major = false ∧ (h.coll major (L.map refWd)).2.2 = 2 := by
  have hg := few_good hL
  cases major with
  | true =>
    have : (h.coll true (L.map refWd)).2.2 = 0 := by
      show (h.major (L.map refWd)).2.2 = 0
      unfold LH.major; rw [hg, if_neg (by simp)]
    exact (he this).elim
  | false =>
    refine ⟨rfl, ?_⟩
    have he' : (h.minor (L.map refWd)).2.2 ≠ 0 := he
    show (h.minor (L.map refWd)).2.2 = 2
    unfold LH.minor at he' ⊢
    rw [hg, if_neg (by simp)] at he' ⊢
    split
    · rfl
    · rename_i hc; rw [if_neg hc] at he'; exact (he' rfl).elim

/-! ### A second collection -/
theorem mvTo_self (A : List Bk) (k : Int) : mvTo A A k = k := by
  induction A with
  | nil => rfl
  | cons x A ih =>
    by_cases h : x.at_ = k
    · subst h; rw [mvTo_cons_eq]
    · rw [mvTo_cons_ne h, ih]
theorem mvW_id {f : Int → Int} (hf : ∀ k, f k = k) (u : Wd) : mvW f u = u := by
  unfold mvW; split
  · rfl
  · rw [hf]
theorem mvB_id {f : Int → Int} (hf : ∀ k, f k = k) (b : Bk) : mvB f b = b := by
  unfold mvB
  have : b.ws.map (mvW f) = b.ws := by
    conv => rhs; rw [← List.map_id b.ws]
    exact List.map_congr_left fun u _ => mvW_id hf u
  rw [this]
theorem map_id_of {α : Type} {f : α → α} (hf : ∀ a, f a = a) (l : List α) : l.map f = l := by
  conv => rhs; rw [← List.map_id l]
  exact List.map_congr_left fun a _ => hf a
theorem again_same {h : LH} (k : LOk h) (hyb : h.yb = []) {roots : List Wd} (hb : roots.any h.bad = false) (hre : h.reachB roots = h.all.map Bk.at_) (again : Bool) :
    (h.coll again roots).2.2 = 0 ∧ (h.coll again roots).2.1 = roots ∧ (h.coll again roots).1.all = h.all := by
  have hall : h.all = h.ob := by unfold LH.all; rw [hyb]; rfl
  cases again with
  | false =>
    show (h.minor roots).2.2 = 0 ∧ (h.minor roots).2.1 = roots ∧ (h.minor roots).1.all = h.all
    have hl : h.liveY roots = [] := by unfold LH.liveY; rw [hyb]; rfl
    have hf : ∀ k, h.minorF roots k = k := fun k => by
      unfold LH.minorF; rw [hl]; exact mvTo_self _ _
    have hr : ¬ h.O - bused h.ob < bused (h.liveY roots) := by rw [hl]; have := k.uo; simp [bused] at *; omega
    unfold LH.minor
    rw [hb, if_neg (by simp), if_neg hr]
    refine ⟨rfl, map_id_of (mvW_id hf) _, ?_⟩
    show [] ++ (h.ob ++ shift _ (h.liveY roots)).map (mvB (h.minorF roots)) = h.all
    rw [hl, map_id_of (mvB_id hf), hall]; simp [shift]
  | true =>
    show (h.major roots).2.2 = 0 ∧ (h.major roots).2.1 = roots ∧ (h.major roots).1.all = h.all
    have hk : h.keptO roots = h.ob := by
      unfold LH.reachB at hre
      rw [hb, if_neg (by simp)] at hre
      unfold LH.reach at hre
      have hlen := congrArg List.length hre
      rw [List.length_map, List.length_map] at hlen
      have := List.Sublist.eq_of_length (List.filter_sublist (p := h.keep (fun _ => true) roots) (l := h.all)) hlen
      rw [hall] at this; exact this
    have hky : h.keptY roots = [] := by unfold LH.keptY; rw [hyb]; rfl
    have hfit : h.fit roots = ([], []) := by unfold LH.fit; rw [hky]; rfl
    have hno : h.newO roots = h.ob := by unfold LH.newO; rw [hk, hfit]; simp only [List.append_nil]; exact shift_self k.do_
    have hny : h.newY roots = [] := by unfold LH.newY; rw [hfit]; rfl
    have hf : ∀ k, h.majorF roots k = k := fun k => by
      unfold LH.majorF; rw [hno, hny, hk, hfit]; simp only [List.append_nil]; exact mvTo_self _ _
    unfold LH.major
    rw [hb, if_neg (by simp)]
    refine ⟨rfl, map_id_of (mvW_id hf) _, ?_⟩
    show (h.newY roots).map (mvB (h.majorF roots)) ++ (h.newO roots).map (mvB (h.majorF roots)) = h.all
    rw [hny, hno, map_id_of (mvB_id hf), hall, map_id_of (mvB_id hf)]; rfl
theorem yb_empty {l : List Bk} (h : bused l = 0) : l = [] := by
  cases l with
  | nil => rfl
  | cons b l => rw [bused_cons] at h; have := bused_nonneg l; omega
end Go.Proofs.Ytikigppfnhilhaa
