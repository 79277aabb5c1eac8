/- What the reference's reach returns: plain. -/
import Derived.Test.YtikigppfnhilhaaGPD41
/- What the reference's reach returns: plain. -/
namespace Go.Proofs.Ytikigppfnhilhaa
open Go.RowKit Go.Instr
set_option linter.unusedVariables false
set_option linter.unusedSimpArgs false

def LH.want (h : LH) (yo : Bool) (u : Wd) : Bool := decide (refW u ≠ 0) && (!yo || h.yg u)
def LH.pY (h : LH) (yo : Bool) (b : Bk) : Bool := !yo || h.isY b
theorem LH.pY_false (h : LH) : h.pY false = fun _ => true := rfl
theorem LH.pY_true (h : LH) : h.pY true = h.isY := by funext b; simp [LH.pY]
theorem LRch.all {h : LH} {p : Bk → Bool} {from_ : List Wd} {b : Bk} (k : LRch h.find p from_ b) : b ∈ h.all ∧ p b = true := by
  cases k with
  | root hu hf hp => exact ⟨(LH.find_mem hf).1, hp⟩
  | step _ hu hf hp => exact ⟨(LH.find_mem hf).1, hp⟩
theorem want_of {h : LH} (k : LOk h) {yo : Bool} {u : Wd} {b : Bk} (hf : h.find (refW u) = some b) (hp : h.pY yo b = true) : h.want yo u = true := by
  obtain ⟨hm, ha⟩ := LH.find_mem hf
  have hpos := k.pos2 hm
  have hne : refW u ≠ 0 := by omega
  unfold LH.want
  rw [decide_eq_true hne, Bool.true_and]
  cases yo with
  | false => rfl
  | true =>
    have h1 : b.at_ ≤ h.Y := by simpa [LH.pY, LH.isY] using hp
    have ht : u.tag = 1 := by unfold refW at hne; split at hne <;> simp_all
    have hra : refW u = u.a := by unfold refW; rw [if_pos ht]
    simp only [Bool.not_true, Bool.false_or]
    exact decide_eq_true ⟨ht, by omega, by omega⟩
theorem pY_of {h : LH} {yo : Bool} {u : Wd} {b : Bk} (hf : h.find (refW u) = some b) (hw : h.want yo u = true) : h.pY yo b = true := by
  obtain ⟨hm, ha⟩ := LH.find_mem hf
  cases yo with
  | false => rfl
  | true =>
    simp only [LH.want, Bool.not_true, Bool.false_or, Bool.and_eq_true] at hw
    have h2 := of_decide_eq_true hw.2
    have hra : refW u = u.a := by unfold refW; rw [if_pos h2.1]
    simp only [LH.pY, LH.isY, Bool.not_true, Bool.false_or]
    exact decide_eq_true (by omega)
/-- The work under way. -/
structure RQ (h : LH) (yo : Bool) (from_ : List Wd) (K0 K : List Int) (ws : List Wd) : Prop where
  sorted : K.Pairwise (· < ·)
  sub : ∀ k ∈ K, ∃ b, h.find k = some b
  old : ∀ k ∈ K0, k ∈ K
  new : ∀ k ∈ K, k ∈ K0 ∨ ∃ b, h.find k = some b ∧ LRch h.find (h.pY yo) from_ b
  src : ∀ u ∈ ws, u ∈ from_ ∨ ∃ b ∈ h.all, u ∈ b.ws ∧ LRch h.find (h.pY yo) from_ b
  cl : ∀ u, (u ∈ from_ ∨ ∃ k ∈ K, ∃ b, h.find k = some b ∧ u ∈ b.ws) → h.want yo u = true → u ∈ ws ∨ refW u ∈ K
  len : ws.length ≤ from_.length + K.length * 1000
/-- What is returned. -/
structure RGood (h : LH) (yo : Bool) (from_ : List Wd) (K0 K : List Int) : Prop where
  sorted : K.Pairwise (· < ·)
  sub : ∀ k ∈ K, ∃ b, h.find k = some b
  old : ∀ k ∈ K0, k ∈ K
  new : ∀ k ∈ K, k ∈ K0 ∨ ∃ b, h.find k = some b ∧ LRch h.find (h.pY yo) from_ b
  cl : ∀ u, (u ∈ from_ ∨ ∃ k ∈ K, ∃ b, h.find k = some b ∧ u ∈ b.ws) → h.want yo u = true → refW u ∈ K
theorem RQ.start {h : LH} {yo : Bool} {from_ : List Wd} {K0 : List Int} (hs : K0.Pairwise (· < ·)) (hsub : ∀ k ∈ K0, ∃ b, h.find k = some b)
    (hcl : ∀ u, (∃ k ∈ K0, ∃ b, h.find k = some b ∧ u ∈ b.ws) → h.want yo u = true → refW u ∈ K0) : RQ h yo from_ K0 K0 from_ :=
  ⟨hs, hsub, fun k hk => hk, fun k hk => .inl hk, fun u hu => .inl hu, fun u hu hw => by
    rcases hu with hu | hu
    · exact .inl hu
    · exact .inr (hcl u hu hw), by omega⟩
theorem RQ.skip {h : LH} {yo : Bool} {from_ : List Wd} {K0 K : List Int} {ws : List Wd} {u : Wd} (q : RQ h yo from_ K0 K (ws ++ [u])) (hs : h.want yo u = true → refW u ∈ K) : RQ h yo from_ K0 K ws :=
  ⟨q.sorted, q.sub, q.old, q.new, fun v hv => q.src v (by simp [hv]), fun v hv hw => by
    rcases q.cl v hv hw with h1 | h1
    · rcases List.mem_append.1 h1 with h1 | h1
      · exact .inl h1
      · simp at h1; subst h1; exact .inr (hs hw)
    · exact .inr h1, by have := q.len; simp at this; omega⟩
theorem RQ.found {h : LH} {yo : Bool} {from_ : List Wd} {K0 K : List Int} {ws : List Wd} {u : Wd} (q : RQ h yo from_ K0 K (ws ++ [u])) (h1 : ∀ u ∈ from_, h.bad u = false) (h2 : ∀ b ∈ h.all, ∀ u ∈ b.ws, h.bad u = false) (hw : h.want yo u = true) : ∃ b, h.find (refW u) = some b := by
  have hb : h.bad u = false := by
    rcases q.src u (by simp) with hu | ⟨b, hb, hu, -⟩
    · exact h1 u hu
    · exact h2 b hb u hu
  have hne : refW u ≠ 0 := by
    simp only [LH.want, Bool.and_eq_true] at hw; exact of_decide_eq_true hw.1
  unfold LH.bad at hb
  cases hf : h.find (refW u) with
  | none => rw [hf] at hb; simp [hne] at hb
  | some b => exact ⟨b, rfl⟩
theorem RQ.add {h : LH} {yo : Bool} {from_ : List Wd} {K0 K K' : List Int} {ws : List Wd} {u : Wd} {b : Bk} (q : RQ h yo from_ K0 K (ws ++ [u])) (hw : h.want yo u = true) (hf : h.find (refW u) = some b) (hn : refW u ∉ K) (ok : IntoOk K (refW u) K') (hl : b.ws.length ≤ 1000) :
    RQ h yo from_ K0 K' (ws ++ b.ws) := by
  have hr : LRch h.find (h.pY yo) from_ b := by
    rcases q.src u (by simp) with hu | ⟨z, hz, hu, hr⟩
    · exact .root hu hf (pY_of hf hw)
    · exact .step hr hu hf (pY_of hf hw)
  have hkl : K'.length = K.length + 1 := by rw [ok.len, if_neg hn]
  refine ⟨ok.sorted, fun k hk => ?_, fun k hk => (ok.mem k).2 (.inr (q.old k hk)), fun k hk => ?_, fun v hv => ?_, fun v hv hwv => ?_, ?_⟩
  · rcases (ok.mem k).1 hk with rfl | hk
    · exact ⟨b, hf⟩
    · exact q.sub k hk
  · rcases (ok.mem k).1 hk with rfl | hk
    · exact .inr ⟨b, hf, hr⟩
    · exact q.new k hk
  · rcases List.mem_append.1 hv with hv | hv
    · exact q.src v (by simp [hv])
    · exact .inr ⟨b, (LH.find_mem hf).1, hv, hr⟩
  · have hcase : (v ∈ from_ ∨ ∃ k ∈ K, ∃ b, h.find k = some b ∧ v ∈ b.ws) ∨ v ∈ b.ws := by
      rcases hv with hv | ⟨k, hk, c, hc, hv⟩
      · exact .inl (.inl hv)
      · rcases (ok.mem k).1 hk with rfl | hk
        · rw [hf] at hc; injection hc with hc; subst hc; exact .inr hv
        · exact .inl (.inr ⟨k, hk, c, hc, hv⟩)
    rcases hcase with hv | hv
    · rcases q.cl v hv hwv with h1 | h1
      · rcases List.mem_append.1 h1 with h1 | h1
        · exact .inl (by simp [h1])
        · simp at h1; subst h1; exact .inr ((ok.mem _).2 (.inl rfl))
      · exact .inr ((ok.mem _).2 (.inr h1))
    · exact .inl (by simp [hv])
  · have := q.len; simp at this ⊢; rw [hkl]; omega
theorem RQ.done {h : LH} {yo : Bool} {from_ : List Wd} {K0 K : List Int} (q : RQ h yo from_ K0 K []) : RGood h yo from_ K0 K :=
  ⟨q.sorted, q.sub, q.old, q.new, fun u hu hw => by rcases q.cl u hu hw with h | h; simp at h; exact h⟩
theorem RQ.count {h : LH} {yo : Bool} {from_ : List Wd} {K0 K : List Int} {ws : List Wd} (q : RQ h yo from_ K0 K ws) : K.length ≤ h.all.length := by
  have h1 := nodup_lenZ (q.sorted.imp fun h => by omega : K.Nodup) (b := h.all.map Bk.at_) (fun k hk => by
    obtain ⟨b, hb⟩ := q.sub k hk
    obtain ⟨hm, ha⟩ := LH.find_mem hb
    rw [← ha]; exact List.mem_map_of_mem hm)
  simpa using h1
theorem RGood.count {h : LH} {yo : Bool} {from_ : List Wd} {K0 K : List Int} (q : RGood h yo from_ K0 K) : K.length ≤ h.all.length := by
  have h1 := nodup_lenZ (q.sorted.imp fun h => by omega : K.Nodup) (b := h.all.map Bk.at_) (fun k hk => by
    obtain ⟨b, hb⟩ := q.sub k hk
    obtain ⟨hm, ha⟩ := LH.find_mem hb
    rw [← ha]; exact List.mem_map_of_mem hm)
  simpa using h1
/-- One after the other. -/
theorem RGood.comp {h : LH} {yo : Bool} {a b : List Wd} {K0 K1 K2 : List Int} (p : RGood h yo a K0 K1) (q : RGood h yo b K1 K2) : RGood h yo (a ++ b) K0 K2 :=
  ⟨q.sorted, q.sub, fun k hk => q.old k (p.old k hk), fun k hk => by
    rcases q.new k hk with hk | ⟨c, hc, hr⟩
    · rcases p.new k hk with hk | ⟨c, hc, hr⟩
      · exact .inl hk
      · exact .inr ⟨c, hc, hr.mono fun u hu => by simp [hu]⟩
    · exact .inr ⟨c, hc, hr.mono fun u hu => by simp [hu]⟩, fun u hu hw => by
    rcases hu with hu | hu
    · rcases List.mem_append.1 hu with hu | hu
      · exact q.old _ (p.cl u (.inl hu) hw)
      · exact q.cl u (.inl hu) hw
    · exact q.cl u (.inr hu) hw⟩
theorem RGood.closed {h : LH} {yo : Bool} {a : List Wd} {K0 K : List Int} (p : RGood h yo a K0 K) : ∀ u, (∃ k ∈ K, ∃ b, h.find k = some b ∧ u ∈ b.ws) → h.want yo u = true → refW u ∈ K := fun u hu => p.cl u (.inr hu)
/-- It is what is reached. -/
theorem RGood.iff {h : LH} (k : LOk h) {yo : Bool} {from_ : List Wd} {K : List Int} (p : RGood h yo from_ [] K) {b : Bk} (hb : b ∈ h.all) : b.at_ ∈ K ↔ LRch h.find (h.pY yo) from_ b := by
  constructor
  · intro hk
    rcases p.new _ hk with h1 | ⟨c, hc, hr⟩
    · simp at h1
    · rw [k.find hb] at hc; injection hc with hc; rw [hc]; exact hr
  · intro hr
    induction hr with
    | root hu hf hp => rw [(LH.find_mem hf).2]; exact p.cl _ (.inl hu) (want_of k hf hp)
    | step hz hu hf hp ih => rw [(LH.find_mem hf).2]; exact p.cl _ (.inr ⟨_, ih hz.all.1, _, k.find hz.all.1, hu⟩) (want_of k hf hp)
end Go.Proofs.Ytikigppfnhilhaa
