/- What HeapFrees needs (plain). -/
import Derived.Test.YtikigppfnhilhaaKE
import Derived.Test.YtikigppfnhilhaaKG
import Derived.Test.YtikigppfnhilhaaKH
namespace Go.Proofs.Ytikigppfnhilhaa
set_option linter.unusedVariables false
set_option linter.unusedSimpArgs false

theorem Mvd.ref_all {h h' : LH} {roots now : List Wd} {K M : List Bk} (m : Mvd h h' roots now K M) {u : Wd} (hr : refW u ≠ 0) {z : Bk} (hz : z ∈ K) (e : z.at_ = refW u) :
    ∃ y ∈ M, y.kind = z.kind ∧ y.ws = z.ws ∧ refW (mvW (mvTo K M) u) = y.at_ := by
  obtain ⟨y, hy, h1, h2, h3⟩ := m.mv.get m.ats hz
  exact ⟨y, hy, h1, h2, by rw [refW_mvW hr, ← e, h3]⟩
theorem Mvd.now_good {h h' : LH} {roots now : List Wd} {K M : List Bk} (m : Mvd h h' roots now K M) : now.any h'.bad = false := by
  rw [m.now, List.any_eq_false]
  intro v hv
  obtain ⟨u, hu, rfl⟩ := List.mem_map.1 hv
  have : h'.bad (mvW (mvTo K M) u) = false := bad_iff.2 fun hr => by
    have hr0 : refW u ≠ 0 := fun e => hr (by rw [refW_mvW_zero e]; exact e)
    obtain ⟨t, ht, et⟩ := m.clr u hu hr0
    obtain ⟨y, hy, _, _, h3⟩ := m.ref_all hr0 ht et
    exact ⟨mvB (mvTo K M) y, (m.all' (mvB (mvTo K M) y)).2 (List.mem_map_of_mem hy), h3.symm⟩
  simp [this]
/-- Behind a major collection all is reached. -/
theorem Mvd.all_reached {h h' : LH} {roots now : List Wd} {K M : List Bk} (m : Mvd h h' roots now K M) (k' : LOk h') (k : LOk h) {z : Bk} (hz : LRch h.find (fun _ => true) roots z) (hK : ∀ z, LRch h.find (fun _ => true) roots z → z ∈ K) :
    ∀ y ∈ M, y.kind = z.kind → y.ws = z.ws → mvTo K M z.at_ = y.at_ → LRch h'.find (fun _ => true) now (mvB (mvTo K M) y) := by
  have hfind : ∀ y ∈ M, h'.find y.at_ = some (mvB (mvTo K M) y) := fun y hy => k'.find ((m.all' (mvB (mvTo K M) y)).2 (List.mem_map_of_mem hy))
  have hb : ∀ {u : Wd} {b : Bk}, h.find (refW u) = some b → refW u ≠ 0 := fun {u b} hf hz => by
    obtain ⟨h1, h2⟩ := LH.find_mem hf
    rcases List.mem_append.1 h1 with hh | hh
    · have := k.dy.mem hh; omega
    · have := k.do_.mem hh; have := k.Y0; omega
  induction hz with
  | @root u b hu hf _ =>
    intro y hy h1 h2 h3
    refine .root (u := mvW (mvTo K M) u) (by rw [m.now]; exact List.mem_map_of_mem hu) ?_ rfl
    rw [refW_mvW (hb hf), ← (LH.find_mem hf).2, h3]; exact hfind y hy
  | @step z u b hz hu hf _ ih =>
    intro y hy h1 h2 h3
    obtain ⟨y0, hy0, k0, w0, e0⟩ := m.mv.get m.ats (hK z hz)
    have ihz := ih y0 hy0 k0 w0 e0
    refine .step (u := mvW (mvTo K M) u) ihz ?_ ?_ rfl
    · show mvW (mvTo K M) u ∈ y0.ws.map (mvW (mvTo K M))
      rw [w0]; exact List.mem_map_of_mem hu
    · rw [refW_mvW (hb hf), ← (LH.find_mem hf).2, h3]; exact hfind y hy
theorem major_reach {h : LH} (k : LOk h) (hi : LInv h) {roots : List Wd} (k' : LOk (h.major roots).1) (he : (h.major roots).2.2 = 0) :
    (h.major roots).1.reachB (h.major roots).2.1 = (h.major roots).1.all.map Bk.at_ := by
  have m := major_mvd k hi k' he
  unfold LH.reachB LH.reach
  rw [m.now_good, if_neg (by simp)]
  congr 1
  rw [List.filter_eq_self]
  intro b hb
  rw [LH.keep_iff]
  obtain ⟨y, hy, rfl⟩ := List.mem_map.1 ((m.all' b).1 hb)
  obtain ⟨z, hz, h1, h2, h3⟩ := m.mv.back m.ats hy
  exact m.all_reached k' k (major_kept.1 hz).2 (fun z hz => major_kept.2 ⟨by
    cases hz with
    | root _ hf _ => exact (LH.find_mem hf).1
    | step _ _ hf _ => exact (LH.find_mem hf).1, hz⟩) y hy h1 h2 h3
/-- Behind a minor collection no block is young, and each old one is there. -/
theorem minor_old {h : LH} (k : LOk h) {roots : List Wd} (k' : LOk (h.minor roots).1) (he : (h.minor roots).2.2 = 0) :
    (h.minor roots).1.yb = [] ∧ h.ob.length ≤ (h.minor roots).1.all.length ∧
      ∀ z ∈ h.ob, ∃ b, (h.minor roots).1.all.find? (fun b => b.at_ = z.at_) = some b ∧ b.kind = z.kind ∧ b.ws.length = z.ws.length := by
  have hb : roots.any h.bad = false := by
    cases hc : roots.any h.bad with
    | false => rfl
    | true => unfold LH.minor at he; rw [if_pos hc] at he; simp at he
  have hr : ¬ h.O - bused h.ob < bused (h.liveY roots) := fun hc => by
    unfold LH.minor at he; rw [hb, if_neg (by simp), if_pos hc] at he; simp at he
  have heq : (h.minor roots).1 = ⟨h.Y, h.O, [], (h.ob ++ shift (h.Y + 1 + bused h.ob) (h.liveY roots)).map (mvB (h.minorF roots)), []⟩ := by
    unfold LH.minor; rw [hb, if_neg (by simp), if_neg hr]
  refine ⟨by rw [heq], by rw [heq]; simp [LH.all], fun z hz => ⟨mvB (h.minorF roots) z, ?_, rfl, by simp [mvB]⟩⟩
  have hm : mvB (h.minorF roots) z ∈ (h.minor roots).1.all := by
    rw [heq]; simp only [LH.all, List.nil_append]; exact List.mem_map_of_mem (List.mem_append_left _ hz)
  exact k'.find hm
end Go.Proofs.Ytikigppfnhilhaa
