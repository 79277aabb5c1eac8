/- What a collection keeps corresponds to what it was (plain). -/
import Derived.Test.YtikigppfnhilhaaKD
namespace Go.Proofs.Ytikigppfnhilhaa
set_option linter.unusedVariables false
set_option linter.unusedSimpArgs false

/-- A collection, minor or major. -/
noncomputable def LH.coll (h : LH) (major : Bool) (roots : List Wd) : LH × List Wd × Int := if major = true then h.major roots else h.minor roots

theorem MvL.inj {a b : List Bk} (h : MvL a b) (hn : (a.map Bk.at_).Nodup) (hm : (b.map Bk.at_).Nodup) {z t : Bk} (hz : z ∈ a) (ht : t ∈ a) (e : mvTo a b z.at_ = mvTo a b t.at_) : z.at_ = t.at_ := by
  induction a generalizing b with
  | nil => cases hz
  | cons x a ih => cases b with
    | nil => exact h.elim
    | cons y b =>
      rw [List.map_cons, List.nodup_cons] at hn hm
      have hx : ∀ s ∈ a, mvTo (x :: a) (y :: b) s.at_ = mvTo a b s.at_ := fun s hs => by
        have : x.at_ ≠ s.at_ := fun e => hn.1 (by rw [e]; exact List.mem_map_of_mem hs)
        simp [mvTo, this]
      have h0 : mvTo (x :: a) (y :: b) x.at_ = y.at_ := by simp [mvTo]
      have hy : ∀ s ∈ a, mvTo a b s.at_ ≠ y.at_ := fun s hs e => by
        obtain ⟨y', h1, _, _, h2⟩ := h.2.get hn.2 hs
        exact hm.1 (by rw [← e, h2]; exact List.mem_map_of_mem h1)
      rcases List.mem_cons.1 hz with e1 | hz' <;> rcases List.mem_cons.1 ht with e2 | ht'
      · rw [e1, e2]
      · subst e1; rw [h0, hx t ht'] at e; exact (hy t ht' e.symm).elim
      · subst e2; rw [h0, hx z hz'] at e; exact (hy z hz' e).elim
      · rw [hx z hz', hx t ht'] at e; exact ih h.2 hn.2 hm.2 hz' ht' e

/-- What a collection that ends well does. -/
structure Mvd (h h' : LH) (roots now : List Wd) (K M : List Bk) : Prop where
  mv : MvL K M
  ats : (K.map Bk.at_).Nodup
  sub : ∀ z ∈ K, z ∈ h.all
  cl : ∀ z ∈ K, ∀ u ∈ z.ws, refW u ≠ 0 → ∃ t ∈ K, t.at_ = refW u
  clr : ∀ u ∈ roots, refW u ≠ 0 → ∃ t ∈ K, t.at_ = refW u
  all' : ∀ b, b ∈ h'.all ↔ b ∈ M.map (mvB (mvTo K M))
  mats : (M.map Bk.at_).Nodup
  now : now = roots.map (mvW (mvTo K M))

theorem map_mvB_at (f : Int → Int) (l : List Bk) : (l.map (mvB f)).map Bk.at_ = l.map Bk.at_ := by
  rw [List.map_map]; rfl
theorem minor_mvd {h : LH} (k : LOk h) (hi : LInv h) {roots : List Wd} (k' : LOk (h.minor roots).1) (he : (h.minor roots).2.2 = 0) :
    Mvd h (h.minor roots).1 roots (h.minor roots).2.1 (h.ob ++ h.liveY roots) (h.ob ++ shift (h.Y + 1 + bused h.ob) (h.liveY roots)) := by
  have hb : roots.any h.bad = false := by
    cases hc : roots.any h.bad with
    | false => rfl
    | true => unfold LH.minor at he; rw [if_pos hc] at he; simp at he
  have hr : ¬ h.O - bused h.ob < bused (h.liveY roots) := fun hc => by
    unfold LH.minor at he; rw [hb, if_neg (by simp), if_pos hc] at he; simp at he
  have heq : h.minor roots = (⟨h.Y, h.O, [], (h.ob ++ shift (h.Y + 1 + bused h.ob) (h.liveY roots)).map (mvB (h.minorF roots)), []⟩, roots.map (mvW (h.minorF roots)), 0) := by
    unfold LH.minor; rw [hb, if_neg (by simp), if_neg hr]
  have hsub : ∀ z ∈ h.ob ++ h.liveY roots, z ∈ h.all := fun z hz => by
    rcases List.mem_append.1 hz with hz | hz
    · exact List.mem_append_right _ hz
    · exact List.mem_append_left _ (List.mem_filter.1 hz).1
  refine ⟨minor_mv h roots, minor_ats k roots, hsub, fun z hz u hu hr => ?_, fun u hu hr => ?_, fun b => ?_, (minor_dense k roots).nodup, by rw [heq]; rfl⟩
  · obtain ⟨t, ht, hf⟩ := minor_closedL k hi (roots := roots) hr (hi.ref z (hsub z hz) u hu) (.inr ⟨z, hz, hu⟩)
    exact ⟨t, ht, (LH.find_mem hf).2⟩
  · have hbu : h.bad u = false := by
      cases hc : h.bad u with
      | false => rfl
      | true => rw [List.any_eq_true.2 ⟨u, hu, hc⟩] at hb; cases hb
    obtain ⟨t, ht, hf⟩ := minor_closedL k hi (roots := roots) hr hbu (.inl hu)
    exact ⟨t, ht, (LH.find_mem hf).2⟩
  · rw [heq]; simp only [LH.all, List.nil_append]; exact Iff.rfl
theorem major_mvd {h : LH} (k : LOk h) (hi : LInv h) {roots : List Wd} (k' : LOk (h.major roots).1) (he : (h.major roots).2.2 = 0) :
    Mvd h (h.major roots).1 roots (h.major roots).2.1 (h.keptO roots ++ (h.fit roots).1 ++ (h.fit roots).2) (h.newO roots ++ h.newY roots) := by
  have hb : roots.any h.bad = false := by
    cases hc : roots.any h.bad with
    | false => rfl
    | true => unfold LH.major at he; rw [if_pos hc] at he; simp at he
  have heq : h.major roots = (⟨h.Y, h.O, (h.newY roots).map (mvB (h.majorF roots)), (h.newO roots).map (mvB (h.majorF roots)), (((h.newO roots).map (mvB (h.majorF roots))).filter h.toY).map Bk.at_⟩, roots.map (mvW (h.majorF roots)), 0) := by
    unfold LH.major; rw [hb, if_neg (by simp)]
  refine ⟨major_mv h roots, major_ats k roots, fun z hz => (major_kept.1 hz).1, fun z hz u hu hr => ?_, fun u hu hr => ?_, fun b => ?_, ?_, by rw [heq]; rfl⟩
  · obtain ⟨t, ht, hf⟩ := major_closedL k (roots := roots) hr (hi.ref z (major_kept.1 hz).1 u hu) (.inr ⟨z, hz, hu⟩)
    exact ⟨t, ht, (LH.find_mem hf).2⟩
  · have hbu : h.bad u = false := by
      cases hc : h.bad u with
      | false => rfl
      | true => rw [List.any_eq_true.2 ⟨u, hu, hc⟩] at hb; cases hb
    obtain ⟨t, ht, hf⟩ := major_closedL k (roots := roots) hr hbu (.inl hu)
    exact ⟨t, ht, (LH.find_mem hf).2⟩
  · rw [heq]; simp only [LH.all]; rw [List.map_append, List.mem_append, List.mem_append, or_comm]; exact Iff.rfl
  · have := k'.ats
    rw [heq] at this
    simp only [LH.all] at this
    rw [List.map_append, map_mvB_at, map_mvB_at] at this
    rw [List.map_append]
    exact (List.perm_append_comm (l₁ := (h.newO roots).map Bk.at_) (l₂ := (h.newY roots).map Bk.at_)).nodup_iff.2 this
theorem coll_mvd {h : LH} (k : LOk h) (hi : LInv h) {roots : List Wd} {major : Bool} (k' : LOk (h.coll major roots).1) (he : (h.coll major roots).2.2 = 0) :
    ∃ K M, Mvd h (h.coll major roots).1 roots (h.coll major roots).2.1 K M := by
  cases major with
  | true => exact ⟨_, _, major_mvd k hi k' he⟩
  | false => exact ⟨_, _, minor_mvd k hi k' he⟩
theorem coll_bad {h : LH} {roots : List Wd} {major : Bool} (he : (h.coll major roots).2.2 ≠ 0) : (h.coll major roots).1 = h ∧ (h.coll major roots).2.1 = [] := by
  cases major with
  | true =>
    have : h.coll true roots = h.major roots := rfl
    rw [this] at he ⊢
    unfold LH.major at he ⊢
    split
    · exact ⟨rfl, rfl⟩
    · rename_i hc; rw [if_neg hc] at he; exact (he rfl).elim
  | false =>
    have : h.coll false roots = h.minor roots := rfl
    rw [this] at he ⊢
    unfold LH.minor at he ⊢
    split
    · exact ⟨rfl, rfl⟩
    · rename_i hc; rw [if_neg hc] at he
      split
      · exact ⟨rfl, rfl⟩
      · rename_i hc2; rw [if_neg hc2] at he; exact (he rfl).elim

/-! ### The relation -/
def MvdR (K M : List Bk) (a b : Int) : Prop := ∃ z ∈ K, a = z.at_ ∧ b = mvTo K M z.at_
theorem WR.symm {R : Int → Int → Prop} {u v : Wd} (h : WR R u v) : WR (fun a b => R b a) v u := by
  rcases h with ⟨h1, h2⟩ | ⟨h1, h2, h3, h4⟩
  · subst h2; exact .inl ⟨h1, rfl⟩
  · refine .inr ⟨h2, h1, ?_, h4⟩
    rw [h3]
theorem WsR.symm {R : Int → Int → Prop} {us vs : List Wd} (h : WsR R us vs) : WsR (fun a b => R b a) vs us := ⟨h.1.symm, fun k v u hv hu => (h.2 k u v hu hv).symm⟩
theorem BsR.symm {R : Int → Int → Prop} {xs ys : List Bk} (h : BsR R xs ys) : BsR (fun a b => R b a) ys xs := fun b a hr => by
  obtain ⟨x, y, h1, h2, h3, h4⟩ := h a b hr
  exact ⟨y, x, h2, h1, h3.symm, h4.symm⟩
theorem Mvd.wr {h h' : LH} {roots now : List Wd} {K M : List Bk} (m : Mvd h h' roots now K M) (k' : LOk h') {u : Wd} (hu : refW u ≠ 0 → ∃ t ∈ K, t.at_ = refW u) : WR (MvdR K M) u (mvW (mvTo K M) u) := by
  by_cases hr : refW u = 0
  · exact .inl ⟨hr, refW_mvW_zero hr⟩
  · obtain ⟨t, ht, et⟩ := hu hr
    obtain ⟨y, hy, _, _, e⟩ := m.mv.get m.ats ht
    have hya : mvB (mvTo K M) y ∈ h'.all := (m.all' _).2 (List.mem_map_of_mem hy)
    have hpos : 0 < y.at_ := by
      have h0 : (mvB (mvTo K M) y).at_ = y.at_ := rfl
      rcases List.mem_append.1 hya with hh | hh
      · have := k'.dy.mem hh; omega
      · have := k'.do_.mem hh; have := k'.Y0; omega
    have hm : mvW (mvTo K M) u = { u with a := mvTo K M u.a } := by unfold mvW; rw [if_neg hr]
    refine .inr ⟨hr, ?_, ?_, t, ht, ?_, ?_⟩
    · rw [refW_mvW hr, ← et, e]; omega
    · rw [hm]
    · rw [et]; exact (refW_a hr).symm
    · rw [hm, et, refW_a hr]
theorem Mvd.wsr {h h' : LH} {roots now : List Wd} {K M : List Bk} (m : Mvd h h' roots now K M) (k' : LOk h') {us : List Wd} (hu : ∀ u ∈ us, refW u ≠ 0 → ∃ t ∈ K, t.at_ = refW u) : WsR (MvdR K M) us (us.map (mvW (mvTo K M))) := by
  refine ⟨by simp, fun k u v h1 h2 => ?_⟩
  rw [List.getElem?_map, h1] at h2
  simp at h2
  subst h2
  exact m.wr k' (hu u (List.mem_of_getElem? h1))
theorem Mvd.rel {h h' : LH} {roots now : List Wd} {K M : List Bk} (m : Mvd h h' roots now K M) (hl : h.all.length ≤ 900000) : Rel2 (MvdR K M) (K.map Bk.at_) := by
  refine ⟨?_, fun a b hr => ?_, ?_⟩
  · rintro _ _ _ _ ⟨z, hz, rfl, rfl⟩ ⟨z', hz', rfl, rfl⟩
    exact ⟨fun e => by rw [e], fun e => m.mv.inj m.ats m.mats hz' hz e⟩
  · obtain ⟨z, hz, rfl, _⟩ := hr
    exact List.mem_map_of_mem hz
  · refine Nat.le_trans (nodup_lenI m.ats (b := h.all.map Bk.at_) fun a ha => ?_) (by simpa using hl)
    · obtain ⟨z, hz, rfl⟩ := List.mem_map.1 ha
      exact List.mem_map_of_mem (m.sub z hz)
theorem Mvd.rel' {h h' : LH} {roots now : List Wd} {K M : List Bk} (m : Mvd h h' roots now K M) (hl : h'.all.length ≤ 900000) : Rel2 (fun a b => MvdR K M b a) (M.map Bk.at_) := by
  refine ⟨?_, fun a b hr => ?_, ?_⟩
  · rintro _ _ _ _ ⟨z, hz, rfl, rfl⟩ ⟨z', hz', rfl, rfl⟩
    exact ⟨fun e => m.mv.inj m.ats m.mats hz' hz e, fun e => by rw [e]⟩
  · obtain ⟨z, hz, _, rfl⟩ := hr
    obtain ⟨y, hy, _, _, e⟩ := m.mv.get m.ats hz
    rw [e]; exact List.mem_map_of_mem hy
  · refine Nat.le_trans (nodup_lenI m.mats (b := h'.all.map Bk.at_) fun a ha => ?_) (by simpa using hl)
    · obtain ⟨y, hy, rfl⟩ := List.mem_map.1 ha
      exact (show (mvB (mvTo K M) y).at_ ∈ h'.all.map Bk.at_ from List.mem_map_of_mem ((m.all' (mvB (mvTo K M) y)).2 (List.mem_map_of_mem hy)))
theorem Mvd.bsr {h h' : LH} {roots now : List Wd} {K M : List Bk} (m : Mvd h h' roots now K M) (k : LOk h) (k' : LOk h') : BsR (MvdR K M) h.all h'.all := by
  rintro a b ⟨z, hz, rfl, rfl⟩
  obtain ⟨y, hy, h1, h2, e⟩ := m.mv.get m.ats hz
  refine ⟨z, mvB (mvTo K M) y, k.find (m.sub z hz), ?_, ?_, ?_⟩
  · have := k'.find ((m.all' (mvB (mvTo K M) y)).2 (List.mem_map_of_mem hy))
    rw [e]; exact this
  · exact h1.symm
  · have := m.wsr k' (m.cl z hz)
    show WsR _ z.ws (y.ws.map _)
    rw [h2]; exact this
theorem Mvd.lenK {h h' : LH} {roots now : List Wd} {K M : List Bk} (m : Mvd h h' roots now K M) : (K.map Bk.at_).length ≤ h.all.length := by
  have := nodup_lenI m.ats (b := h.all.map Bk.at_) fun a ha => by
    obtain ⟨z, hz, rfl⟩ := List.mem_map.1 ha
    exact List.mem_map_of_mem (m.sub z hz)
  simpa using this
theorem Mvd.lenM {h h' : LH} {roots now : List Wd} {K M : List Bk} (m : Mvd h h' roots now K M) : (M.map Bk.at_).length ≤ h'.all.length := by
  have := nodup_lenI m.mats (b := h'.all.map Bk.at_) fun a ha => by
    obtain ⟨y, hy, rfl⟩ := List.mem_map.1 ha
    exact (show (mvB (mvTo K M) y).at_ ∈ h'.all.map Bk.at_ from List.mem_map_of_mem ((m.all' (mvB (mvTo K M) y)).2 (List.mem_map_of_mem hy)))
  simpa using this
end Go.Proofs.Ytikigppfnhilhaa
