/- The law's small functions: near, word, sameWords, sameBlocks. -/
import Derived.Test.YtikigppfnhilhaaHMb
import Derived.Test.YtikigppfnhilhaaHBl
import Derived.Laws.StructEq
namespace Go.Proofs.Ytikigppfnhilhaa
open Go.RowKit Go.Instr
set_option linter.unusedVariables false
set_option linter.unusedSimpArgs false

/-- A slice value that reads as a list of blocks. -/
def RdB (w : World) (v : Value) (bs : List Bk) : Prop :=
  ∃ a c, v = .slice a bs.length c ∧ (a = none → bs = []) ∧ ∀ ad, a = some ad → ∀ i b, bs[i]? = some b → ∃ u, w.cell? (ad.add (i * 3)) = some (.int .i64 b.at_) ∧ w.cell? (ad.add (i * 3 + 1)) = some (.int .i64 b.kind) ∧ w.cell? (ad.add (i * 3 + 2)) = some u ∧ RdW w u b.ws
theorem RdB.ext {w w' : World} {v : Value} {bs : List Bk} (h : RdB w v bs) (hx : Ext w w') : RdB w' v bs := by
  obtain ⟨a, c, rfl, h1, h2⟩ := h
  refine ⟨a, c, rfl, h1, fun ad had i b hb => ?_⟩
  obtain ⟨u, u1, u2, u3, u4⟩ := h2 ad had i b hb
  exact ⟨u, hx.cell u1, hx.cell u2, hx.cell u3, u4.ext hx⟩
theorem bksCells_get : ∀ (bs : List Bk) (vs : List Value) (i : Nat) (b : Bk) (u : Value), bs[i]? = some b → vs[i]? = some u → ∀ j, j < 3 → (bksCells bs vs)[i * 3 + j]? = (bkCells b u)[j]?
  | [], _, _, _, _, h, _, _, _ => by simp at h
  | _ :: _, [], _, _, _, _, h, _, _ => by simp at h
  | x :: bs, z :: vs, 0, b, u, h, k, j, hj => by
    simp at h k; subst h; subst k
    simp only [bksCells, Nat.zero_mul, Nat.zero_add]
    rw [List.getElem?_append_left (by simp [bkCells]; omega)]
  | x :: bs, z :: vs, i + 1, b, u, h, k, j, hj => by
    simp at h k
    have ih := bksCells_get bs vs i b u h k j hj
    rw [← ih]
    simp only [bksCells]
    rw [List.getElem?_append_right (by simp [bkCells]; omega)]
    congr 1; simp [bkCells]; omega
theorem rdB_of_own {w : World} {n0 : Nat} {v : Value} {bs : List Bk} {vs : List Value} (h : OwnBs w n0 v bs vs) : RdB w v bs := by
  have hc := fun g hg => h.row.cells (g := g) hg
  rcases h.row.2 with ⟨rfl, hl⟩ | ⟨g, cap, cur, rfl, _⟩
  · have : bs = [] := List.eq_nil_of_length_eq_zero hl
    subst this
    exact ⟨none, 0, rfl, fun _ => rfl, fun ad had => by cases had⟩
  · refine ⟨some ⟨g, 0, none⟩, cap, rfl, fun h => (by cases h), fun ad had i b hb => ?_⟩
    injection had with had; subst had
    have hi : i < vs.length := by rw [← h.len]; exact (List.getElem?_eq_some_iff.1 hb).1
    have hu : vs[i]? = some vs[i] := List.getElem?_eq_getElem hi
    have hg := fun j hj => bksCells_get bs vs i b _ hb hu j hj
    refine ⟨vs[i], ?_, ?_, ?_, rdW_of_own (h.ws i b _ hb hu)⟩
    · exact hc g rfl _ _ ((hg 0 (by omega)).trans rfl)
    · exact hc g rfl _ _ ((hg 1 (by omega)).trans rfl)
    · exact hc g rfl _ _ ((hg 2 (by omega)).trans rfl)

/-- near: the address of a block, counted modulo. -/
def nearB (bs : List Bk) (n : Int) : Int :=
  if bs = [] then n else
  let k := n.tmod bs.length
  ((bs[(if k < 0 then k + bs.length else k).toNat]?).map Bk.at_).getD 0
theorem near_nil {w : World} {v : Value} (h : RdB w v []) (n : Int) :
    Calls Try.prog 17 #[v, .int .i64 n] w fun e w' => e = .returned (.int .i64 n) ∧ w' = w := by
  obtain ⟨a, c, rfl, h1, -⟩ := h
  go_enter Try.func17, Try.ntmps17
  go_wp2
  go_ret
  exact ⟨rfl, rfl⟩
theorem near_some {w : World} {v : Value} {bs : List Bk} (h : RdB w v bs) (hl : bs.length ≤ 1000000) (hn : bs ≠ []) (n : Int) :
    Calls Try.prog 17 #[v, .int .i64 n] w fun e w' => e = .returned (.int .i64 (nearB bs n)) ∧ w' = w := by
  obtain ⟨a, c, rfl, h1, h2⟩ := h
  cases a with
  | none => exact (hn (h1 rfl)).elim
  | some ad =>
  have hpos : 0 < bs.length := List.length_pos_iff.2 hn
  have hk := Int.tmod_lt_of_pos n (show (0 : Int) < bs.length by omega)
  have hk2 : -(bs.length : Int) < n.tmod bs.length := by
    have := Int.lt_tmod_of_pos n (show (0 : Int) < bs.length by omega); omega
  by_cases hneg : n.tmod bs.length < 0
  · obtain ⟨j, hj⟩ : ∃ j : Nat, n.tmod bs.length + bs.length = j := ⟨(n.tmod bs.length + bs.length).toNat, by omega⟩
    have hjl : j < bs.length := by omega
    obtain ⟨u, u1, -⟩ := h2 ad rfl j bs[j] (List.getElem?_eq_getElem hjl)
    have hres : nearB bs n = bs[j].at_ := by
      unfold nearB; rw [if_neg hn]; simp only [if_pos hneg, hj]; simp [hjl]
    have Hres := Lib.hid hres
    clear hres h1 h2
    go_enter Try.func17, Try.ntmps17
    go_wp2
    go_ret
    exact ⟨by rw [Hres.out]; rfl, rfl⟩
  · obtain ⟨j, hj⟩ : ∃ j : Nat, n.tmod bs.length = j := ⟨(n.tmod bs.length).toNat, by omega⟩
    have hjl : j < bs.length := by omega
    obtain ⟨u, u1, -⟩ := h2 ad rfl j bs[j] (List.getElem?_eq_getElem hjl)
    have hres : nearB bs n = bs[j].at_ := by
      unfold nearB; rw [if_neg hn]; simp only [hj]; rw [if_neg (by omega)]; simp [hjl]
    have Hres := Lib.hid hres
    clear hres h1 h2
    go_enter Try.func17, Try.ntmps17
    go_wp2
    go_ret
    exact ⟨by rw [Hres.out]; rfl, rfl⟩
theorem near_any {w : World} {v : Value} {bs : List Bk} (h : RdB w v bs) (hl : bs.length ≤ 1000000) (n : Int) :
    Calls Try.prog 17 #[v, .int .i64 n] w fun e w' => e = .returned (.int .i64 (nearB bs n)) ∧ w' = w := by
  by_cases hn : bs = []
  · subst hn
    have : nearB [] n = n := by simp [nearB]
    rw [this]; exact near_nil h n
  · exact near_some h hl hn n

theorem bytes_inj {a b : ByteArray} (h : a.toList = b.toList) : a = b := by
  rw [ByteArray.toList_eq, ByteArray.toList_eq] at h
  cases a; cases b
  simp at h; simpa using h
theorem run_neqW (u v : Wd) (w : World) : (binOp .neq 33 u.val v.val).run Try.prog w = .ok (.bool (!decide (u = v))) w := by
  obtain ⟨a1, a2, a3, a4, a5, a6⟩ := u
  obtain ⟨b1, b2, b3, b4, b5, b6⟩ := v
  unfold Wd.val Wd.cells
  simp only [run_neq_struct]
  simp [go_sem]
  have hb : (a4.toList = b4.toList) = (a4 = b4) := propext ⟨bytes_inj, fun e => by rw [e]⟩
  simp only [hb]
  by_cases h1 : a1 = b1 <;> by_cases h2 : a2 = b2 <;> by_cases h3 : a3 = b3 <;> by_cases h4 : a4 = b4 <;> by_cases h5 : a5 = b5 <;> by_cases h6 : a6 = b6 <;> simp [h1, h2, h3, h4, h5, h6]

/-- word: a word whose reference is counted so. -/
def wordB (bs : List Bk) (u : Wd) (is : Bool) : Wd := if is = true ∧ u.tag = 1 ∧ u.a ≠ 0 then { u with a := nearB bs u.a } else u
set_option maxHeartbeats 1000000 in
theorem lword_any {w : World} {v : Value} {bs : List Bk} (h : RdB w v bs) (hl : bs.length ≤ 1000000) (u : Wd) (is : Bool) :
    Calls Try.prog 18 #[v, u.val, .bool is] w fun e w' => e = .returned (wordB bs u is).val ∧ Ext w w' := by
  have hnear : ∀ W, Ext w W → Calls Try.prog 17 #[v, .int .i64 u.a] W _ := fun W hW => near_any (h.ext hW) hl u.a
  have Hnear := Lib.hid hnear
  clear hnear h
  by_cases hc : is = true ∧ u.tag = 1 ∧ u.a ≠ 0
  · obtain ⟨rfl, h1, h2⟩ := hc
    have Hres : Hid (wordB bs u true = { u with a := nearB bs u.a }) := Lib.hid (by unfold wordB; rw [if_pos ⟨rfl, h1, h2⟩])
    generalize nearB bs u.a = z at Hres Hnear
    unfold Wd.val Wd.cells
    go_enter Try.func18, Try.ntmps18
    go_wp2_with fail
    refine (Hnear.out _ (((Ext.refl w).alloc _).alloc _)).mono ?_
    rintro e w2 ⟨rfl, rfl⟩
    have hE : ∀ (W : World) (p : Addr) (x : Value), w.heap.size ≤ p.block → Ext w W → Ext w (W.setCell p x) := fun W p x hp h => Keeps.setCell h (.inr hp) x
    have HE := Lib.hid hE
    clear hE
    go_wp2
    refine bodyPost_ret (results_cell_row rfl _ _ (w.heap.size + 1) 33 _ (0, 0) _ rfl (heap_alloc2_new w _ _) Try.underlying33 rfl (by kernel_rfl)) rfl ?_
    exact ⟨by rw [Hres.out, h1], ((Ext.refl w).alloc _).alloc _⟩
  · have Hres : Hid (wordB bs u is = u) := Lib.hid (by unfold wordB; rw [if_neg hc])
    have Hc := Lib.hid hc
    clear hc
    unfold Wd.val Wd.cells
    go_enter Try.func18, Try.ntmps18
    go_wp2_with fail
    all_goals first
      | exact absurd ⟨by assumption, by assumption, by simpa using ‹(u.a != 0) = true›⟩ Hc.out
      | (refine bodyPost_ret (results_cell_row rfl _ _ (w.heap.size + 1) 33 _ (0, 0) _ rfl (heap_alloc2_new w _ _) Try.underlying33 rfl (by kernel_rfl)) rfl ?_
         refine ⟨?_, ((Ext.refl w).alloc _).alloc _⟩
         rw [Hres.out]
         try (rw [‹u.tag = 1›]))
end Go.Proofs.Ytikigppfnhilhaa
