/- Major of the reference: plain. -/
import Derived.Test.YtikigppfnhilhaaGPD45
/- Major of the reference: plain. -/
namespace Go.Proofs.Ytikigppfnhilhaa
open Go.RowKit Go.Instr
set_option linter.unusedVariables false
set_option linter.unusedSimpArgs false
attribute [local go_sem] Oper.semAt_some

def fitsR (room : Int) : List RB → List RB × List RB
  | [] => ([], [])
  | y :: l => if (y.b.ws.length : Int) + 1 ≤ room then (y :: (fitsR (room - (y.b.ws.length + 1)) l).1, (fitsR (room - (y.b.ws.length + 1)) l).2) else ([], y :: l)
theorem fitsR_map (room : Int) (l : List RB) : (fitsR room l).1.map RB.b = (fits room (l.map RB.b)).1 ∧ (fitsR room l).2.map RB.b = (fits room (l.map RB.b)).2 := by
  induction l generalizing room with
  | nil => exact ⟨rfl, rfl⟩
  | cons y l ih =>
    simp only [fitsR, List.map_cons, fits]
    split
    · exact ⟨by simp [(ih _).1], (ih _).2⟩
    · exact ⟨rfl, rfl⟩
theorem fitsR_append (room : Int) (l : List RB) : (fitsR room l).1 ++ (fitsR room l).2 = l := by
  induction l generalizing room with
  | nil => rfl
  | cons y l ih =>
    simp only [fitsR]
    split
    · simp [ih]
    · rfl
theorem fitsR_used (room : Int) (h : 0 ≤ room) (l : List RB) : bused ((fitsR room l).1.map RB.b) ≤ room := by
  induction l generalizing room with
  | nil => simpa [fitsR, bused] using h
  | cons y l ih =>
    simp only [fitsR]
    split
    · rw [List.map_cons, bused_cons]; have := ih (room - (y.b.ws.length + 1)) (by omega); omega
    · simpa [bused] using h
theorem fitsR_snoc (room : Int) (l : List RB) (y : RB) : fitsR room (l ++ [y]) =
    if (fitsR room l).2 = [] then (if (y.b.ws.length : Int) + 1 ≤ room - bused ((fitsR room l).1.map RB.b) then ((fitsR room l).1 ++ [y], []) else ((fitsR room l).1, [y])) else ((fitsR room l).1, (fitsR room l).2 ++ [y]) := by
  induction l generalizing room with
  | nil => simp [fitsR, bused]
  | cons z l ih =>
    simp only [List.cons_append, fitsR]
    by_cases hz : (z.b.ws.length : Int) + 1 ≤ room
    · simp only [if_pos hz]
      rw [ih]
      by_cases h2 : (fitsR (room - (z.b.ws.length + 1)) l).2 = []
      · simp only [if_pos h2, List.map_cons, bused_cons]
        have e : room - (z.b.ws.length + 1) - bused ((fitsR (room - (z.b.ws.length + 1)) l).1.map RB.b) = room - (z.b.ws.length + 1 + bused ((fitsR (room - (z.b.ws.length + 1)) l).1.map RB.b)) := by omega
        rw [e]
        split <;> rfl
      · simp only [if_neg h2]
    · simp only [if_neg hz]
      rw [if_neg (by simp)]; rfl
/-- One block appended to a row of blocks. -/
theorem wpList_append_R2 {w : World} {ops : Array Oper} {rest : List Oper} {o : Oper} {a : Act} {Q : Exit → Act → World → Prop} (hgd : o.guard = none) (s x : Operand)
    (ho : o.op = .call { callee := .builtin .append, args := #[s, x], argTypes := #[28, 28] })
    (base : Nat) (v : Value) (l1 : List RB) (hs : a.eval s = v) (hown : rowR w base v l1) (g : Nat) (y : RB) (hx : a.eval x = .slice (some ⟨g, 0, none⟩) 1 1) (hc : Blk w g #[.int .i64 y.b.at_, .int .i64 y.b.kind, y.sl] 49)
    (hl : l1.length ≤ 100000) (hbase : base ≤ w.heap.size)
    (h : ∀ v' w', rowR w' base v' (l1 ++ [y]) → w.grownBy w' v.ownBlock → (∀ k, v'.ownBlock = some k → v.ownBlock = some k ∨ w.heap.size ≤ k) → wpList Try.prog ops Q rest (a.put o.dst v') w') : wpList Try.prog ops Q (o :: rest) a w := by
  obtain ⟨i0, hi, hz0, hz1, hz2⟩ := info_parts info_Block
  refine wpList_append_fresh hgd s x 28 ho base 49 i0 _ 3 40 Try.underlying28 hi hz0 hz1 hz2 rfl (by decide) v l1.length _ hs hown ⟨g, 0, none⟩ 1 1 [Value.int .i64 y.b.at_, Value.int .i64 y.b.kind, y.sl] hx rfl (fun j u hu => ?_) (by simp [Value.oneCell', RB.sl]) (by unfold maxLen; omega) (by omega) hbase ?_
  · have : (⟨g, 0, none⟩ : Addr).add j = ⟨g, j, none⟩ := by unfold Addr.add; split <;> simp_all
    rw [this, hc.cell]; simpa using hu
  · intro v' w' g1 g2 _ g4
    refine h v' w' ?_ g2 g4
    unfold rowR
    have e1 : bksCells ([y].map RB.b) ([y].map RB.sl) = [Value.int .i64 y.b.at_, Value.int .i64 y.b.kind, y.sl] := by simp [bksCells, bkCells]
    rw [bksApp, List.length_append, e1]; exact g1
theorem bused_filter_le (p : Bk → Bool) (l : List Bk) : bused (l.filter p) ≤ bused l := bused_filterR p l
theorem keptO_eq {h : LH} (k : LOk h) {roots : List Wd} {K : List Int} (p : RGood h false roots [] K) : h.keptO roots = h.ob.filter fun b => decide (b.at_ ∈ K) := by
  unfold LH.keptO LH.keep
  exact List.filter_congr fun b hb => decide_eq_decide.2 (p.iff k (List.mem_append_right _ hb : b ∈ h.all)).symm
theorem keptY_eq {h : LH} (k : LOk h) {roots : List Wd} {K : List Int} (p : RGood h false roots [] K) : h.keptY roots = h.yb.filter fun b => decide (b.at_ ∈ K) := by
  unfold LH.keptY LH.keep
  exact List.filter_congr fun b hb => decide_eq_decide.2 (p.iff k (List.mem_append_left _ hb : b ∈ h.all)).symm
theorem kept_ne {h : LH} (k : LOk h) (roots : List Wd) : ∀ b ∈ h.keptO roots ++ (h.fit roots).1 ++ (h.fit roots).2, b.at_ ≠ 0 := fun b hb => by
  have hm : b ∈ h.all := by
    rw [List.append_assoc, show (h.fit roots).1 ++ (h.fit roots).2 = h.keptY roots from fits_append _ _] at hb
    rcases List.mem_append.1 hb with hb | hb
    · exact List.mem_append_right _ (List.mem_filter.1 hb).1
    · exact List.mem_append_left _ (List.mem_filter.1 hb).1
  have := k.pos2 hm; omega
theorem toY_yg {h : LH} (u : Wd) (hp : 0 ≤ refW u) : decide (refW u ≠ 0 ∧ refW u ≤ h.Y) = h.yg u := by
  unfold LH.yg
  refine decide_eq_decide.2 ⟨fun ⟨h1, h2⟩ => ?_, fun ⟨h1, h2, h3⟩ => ?_⟩
  · have ht : u.tag = 1 := by unfold refW at h1; split at h1 <;> simp_all
    have hr : refW u = u.a := by unfold refW; rw [if_pos ht]
    exact ⟨ht, by omega, by omega⟩
  · have hr : refW u = u.a := by unfold refW; rw [if_pos h1]
    exact ⟨by omega, by omega⟩
end Go.Proofs.Ytikigppfnhilhaa
