/- The law's small functions: near, word, sameWords, sameBlocks. sameWords, sameBlocks. -/
import Derived.Test.YtikigppfnhilhaaGPD22
import Derived.Test.YtikigppfnhilhaaGPD13
import Derived.Laws.StructEq
/- The law's small functions: near, word, sameWords, sameBlocks. -/
namespace Go.Proofs.Ytikigppfnhilhaa
open Go.RowKit Go.Instr
set_option linter.unusedVariables false
set_option linter.unusedSimpArgs false

/-- A slice value that reads as a list of blocks. -/
def RdB (w : World) (v : Value) (bs : List Bk) : Prop :=
  ∃ a c, v = .slice a bs.length c ∧ (a = none → bs = []) ∧ ∀ ad, a = some ad → ∀ i b, bs[i]? = some b → ∃ u, w.cell? (ad.add (i * 3)) = some (.int .i64 b.at_) ∧ w.cell? (ad.add (i * 3 + 1)) = some (.int .i64 b.kind) ∧ w.cell? (ad.add (i * 3 + 2)) = some u ∧ RdW w u b.ws
theorem RdB.ext {w w' : World} {v : Value} {bs : List Bk} (h : RdB w v bs) (hx : Ext w w') : RdB w' v bs := by
  obtain ⟨a, c, rfl, h1, h2⟩ := h
  refine ⟨a, c, rfl, h1, fun ad had i b hb => ?_⟩
  obtain ⟨u, u1, u2, u3, u4⟩ := h2 ad had i b hb
  exact ⟨u, hx.cell u1, hx.cell u2, hx.cell u3, u4.ext hx⟩
theorem bksCells_get : ∀ (bs : List Bk) (vs : List Value) (i : Nat) (b : Bk) (u : Value), bs[i]? = some b → vs[i]? = some u → ∀ j, j < 3 → (bksCells bs vs)[i * 3 + j]? = (bkCells b u)[j]?
  | [], _, _, _, _, h, _, _, _ => by simp at h
  | _ :: _, [], _, _, _, _, h, _, _ => by simp at h
  | x :: bs, z :: vs, 0, b, u, h, k, j, hj => by
    simp at h k; subst h; subst k
    simp only [bksCells, Nat.zero_mul, Nat.zero_add]
    rw [List.getElem?_append_left (by simp [bkCells]; omega)]
  | x :: bs, z :: vs, i + 1, b, u, h, k, j, hj => by
    simp at h k
    have ih := bksCells_get bs vs i b u h k j hj
    rw [← ih]
    simp only [bksCells]
    rw [List.getElem?_append_right (by simp [bkCells]; omega)]
    congr 1; simp [bkCells]; omega
theorem rdB_of_own {w : World} {n0 : Nat} {v : Value} {bs : List Bk} {vs : List Value} (h : OwnBs w n0 v bs vs) : RdB w v bs := by
  have hc := fun g hg => h.row.cells (g := g) hg
  rcases h.row.2 with ⟨rfl, hl⟩ | ⟨g, cap, cur, rfl, _⟩
  · have : bs = [] := List.eq_nil_of_length_eq_zero hl
    subst this
    exact ⟨none, 0, rfl, fun _ => rfl, fun ad had => by cases had⟩
  · refine ⟨some ⟨g, 0, none⟩, cap, rfl, fun h => (by cases h), fun ad had i b hb => ?_⟩
    injection had with had; subst had
    have hi : i < vs.length := by rw [← h.len]; exact (List.getElem?_eq_some_iff.1 hb).1
    have hu : vs[i]? = some vs[i] := List.getElem?_eq_getElem hi
    have hg := fun j hj => bksCells_get bs vs i b _ hb hu j hj
    refine ⟨vs[i], ?_, ?_, ?_, rdW_of_own (h.ws i b _ hb hu)⟩
    · exact hc g rfl _ _ ((hg 0 (by omega)).trans rfl)
    · exact hc g rfl _ _ ((hg 1 (by omega)).trans rfl)
    · exact hc g rfl _ _ ((hg 2 (by omega)).trans rfl)

/-- near: the address of a block, counted modulo. -/
def nearB (bs : List Bk) (n : Int) : Int :=
  if bs = [] then n else
  let k := n.tmod bs.length
  ((bs[(if k < 0 then k + bs.length else k).toNat]?).map Bk.at_).getD 0
theorem near_nil {w : World} {v : Value} (h : RdB w v []) (n : Int) :
    Calls Try.prog 17 #[v, .int .i64 n] w fun e w' => e = .returned (.int .i64 n) ∧ w' = w := by
  obtain ⟨a, c, rfl, h1, -⟩ := h
  go_enter Try.func17, Try.ntmps17
  go_wp2
  go_ret
  exact ⟨rfl, rfl⟩
theorem near_some {w : World} {v : Value} {bs : List Bk} (h : RdB w v bs) (hl : bs.length ≤ 1000000) (hn : bs ≠ []) (n : Int) :
    Calls Try.prog 17 #[v, .int .i64 n] w fun e w' => e = .returned (.int .i64 (nearB bs n)) ∧ w' = w := by
  obtain ⟨a, c, rfl, h1, h2⟩ := h
  cases a with
  | none => exact (hn (h1 rfl)).elim
  | some ad =>
  have hpos : 0 < bs.length := List.length_pos_iff.2 hn
  have hk := Int.tmod_lt_of_pos n (show (0 : Int) < bs.length by omega)
  have hk2 : -(bs.length : Int) < n.tmod bs.length := by
    have := Int.lt_tmod_of_pos n (show (0 : Int) < bs.length by omega); omega
  by_cases hneg : n.tmod bs.length < 0
  · obtain ⟨j, hj⟩ : ∃ j : Nat, n.tmod bs.length + bs.length = j := ⟨(n.tmod bs.length + bs.length).toNat, by omega⟩
    have hjl : j < bs.length := by omega
    obtain ⟨u, u1, -⟩ := h2 ad rfl j bs[j] (List.getElem?_eq_getElem hjl)
    have hres : nearB bs n = bs[j].at_ := by
      unfold nearB; rw [if_neg hn]; simp only [if_pos hneg, hj]; simp [hjl]
    have Hres := Lib.hid hres
    clear hres h1 h2
    go_enter Try.func17, Try.ntmps17
    go_wp2
    go_ret
    exact ⟨by rw [Hres.out]; rfl, rfl⟩
  · obtain ⟨j, hj⟩ : ∃ j : Nat, n.tmod bs.length = j := ⟨(n.tmod bs.length).toNat, by omega⟩
    have hjl : j < bs.length := by omega
    obtain ⟨u, u1, -⟩ := h2 ad rfl j bs[j] (List.getElem?_eq_getElem hjl)
    have hres : nearB bs n = bs[j].at_ := by
      unfold nearB; rw [if_neg hn]; simp only [hj]; rw [if_neg (by omega)]; simp [hjl]
    have Hres := Lib.hid hres
    clear hres h1 h2
    go_enter Try.func17, Try.ntmps17
    go_wp2
    go_ret
    exact ⟨by rw [Hres.out]; rfl, rfl⟩
theorem near_any {w : World} {v : Value} {bs : List Bk} (h : RdB w v bs) (hl : bs.length ≤ 1000000) (n : Int) :
    Calls Try.prog 17 #[v, .int .i64 n] w fun e w' => e = .returned (.int .i64 (nearB bs n)) ∧ w' = w := by
  by_cases hn : bs = []
  · subst hn
    have : nearB [] n = n := by simp [nearB]
    rw [this]; exact near_nil h n
  · exact near_some h hl hn n

theorem bytes_inj {a b : ByteArray} (h : a.toList = b.toList) : a = b := by
  rw [ByteArray.toList_eq, ByteArray.toList_eq] at h
  cases a; cases b
  simp at h; simpa using h
theorem run_neqW (u v : Wd) (w : World) : (binOp .neq 33 u.val v.val).run Try.prog w = .ok (.bool (!decide (u = v))) w := by
  obtain ⟨a1, a2, a3, a4, a5, a6⟩ := u
  obtain ⟨b1, b2, b3, b4, b5, b6⟩ := v
  unfold Wd.val Wd.cells
  simp only [run_neq_struct]
  simp [go_sem]
  have hb : (a4.toList = b4.toList) = (a4 = b4) := propext ⟨bytes_inj, fun e => by rw [e]⟩
  simp only [hb]
  by_cases h1 : a1 = b1 <;> by_cases h2 : a2 = b2 <;> by_cases h3 : a3 = b3 <;> by_cases h4 : a4 = b4 <;> by_cases h5 : a5 = b5 <;> by_cases h6 : a6 = b6 <;> simp [h1, h2, h3, h4, h5, h6]

/-- word: a word whose reference is counted so. -/
def wordB (bs : List Bk) (u : Wd) (is : Bool) : Wd := if is = true ∧ u.tag = 1 ∧ u.a ≠ 0 then { u with a := nearB bs u.a } else u
set_option maxHeartbeats 1000000 in
theorem lword_any {w : World} {v : Value} {bs : List Bk} (h : RdB w v bs) (hl : bs.length ≤ 1000000) (u : Wd) (is : Bool) :
    Calls Try.prog 18 #[v, u.val, .bool is] w fun e w' => e = .returned (wordB bs u is).val ∧ Ext w w' := by
  have hnear : ∀ W, Ext w W → Calls Try.prog 17 #[v, .int .i64 u.a] W _ := fun W hW => near_any (h.ext hW) hl u.a
  have Hnear := Lib.hid hnear
  clear hnear h
  by_cases hc : is = true ∧ u.tag = 1 ∧ u.a ≠ 0
  · obtain ⟨rfl, h1, h2⟩ := hc
    have Hres : Hid (wordB bs u true = { u with a := nearB bs u.a }) := Lib.hid (by unfold wordB; rw [if_pos ⟨rfl, h1, h2⟩])
    generalize nearB bs u.a = z at Hres Hnear
    unfold Wd.val Wd.cells
    go_enter Try.func18, Try.ntmps18
    go_wp2_with fail
    refine (Hnear.out _ (((Ext.refl w).alloc _).alloc _)).mono ?_
    rintro e w2 ⟨rfl, rfl⟩
    have hE : ∀ (W : World) (p : Addr) (x : Value), w.heap.size ≤ p.block → Ext w W → Ext w (W.setCell p x) := fun W p x hp h => Keeps.setCell h (.inr hp) x
    have HE := Lib.hid hE
    clear hE
    go_wp2
    refine bodyPost_ret (results_cell_row rfl _ _ (w.heap.size + 1) 33 _ (0, 0) _ rfl (heap_alloc2_new w _ _) Try.underlying33 rfl (by kernel_rfl)) rfl ?_
    exact ⟨by rw [Hres.out, h1], ((Ext.refl w).alloc _).alloc _⟩
  · have Hres : Hid (wordB bs u is = u) := Lib.hid (by unfold wordB; rw [if_neg hc])
    have Hc := Lib.hid hc
    clear hc
    unfold Wd.val Wd.cells
    go_enter Try.func18, Try.ntmps18
    go_wp2_with fail
    all_goals first
      | exact absurd ⟨by assumption, by assumption, by simpa using ‹(u.a != 0) = true›⟩ Hc.out
      | (refine bodyPost_ret (results_cell_row rfl _ _ (w.heap.size + 1) 33 _ (0, 0) _ rfl (heap_alloc2_new w _ _) Try.underlying33 rfl (by kernel_rfl)) rfl ?_
         refine ⟨?_, ((Ext.refl w).alloc _).alloc _⟩
         rw [Hres.out]
         try (rw [‹u.tag = 1›]))
end Go.Proofs.Ytikigppfnhilhaa
/- sameWords, sameBlocks. -/
namespace Go.Proofs.Ytikigppfnhilhaa
open Go.RowKit Go.Instr
set_option linter.unusedVariables false
set_option linter.unusedSimpArgs false
attribute [local go_sem] Oper.semAt_some

/-- The six cells of a word of a list, at one address. -/
structure SixAt (w : World) (A : Addr) (u : Wd) : Prop where
  c0 : w.cell? A = some (.int .i64 u.tag)
  c1 : w.cell? { block := A.block, off := A.off + (0 + 1) } = some (.int .i64 u.a)
  c2 : w.cell? { block := A.block, off := A.off + (1 + 1) } = some (.int .i64 u.b)
  c3 : w.cell? { block := A.block, off := A.off + (2 + 1) } = some (.string u.text)
  c4 : w.cell? { block := A.block, off := A.off + (3 + 1) } = some (.int .i64 u.man)
  c5 : w.cell? { block := A.block, off := A.off + (4 + 1) } = some (.int .i64 u.exp)
theorem RdW.six {w : World} {ad : Addr} {n c : Nat} {ws : List Wd} (h : RdW w (.slice (some ad) n c) ws) {k : Nat} {u : Wd} (hu : ws[k]? = some u) {A : Addr} (hA : ad.add (k * 6) = A) : SixAt w A u := by
  have c0 : w.cell? (A.add 0) = some (.int .i64 u.tag) := by rw [← hA]; exact (h.word hu 0 (by omega)).trans rfl
  have c1 : w.cell? (A.add (0 + 1)) = some (.int .i64 u.a) := by rw [← hA]; exact (h.word hu 1 (by omega)).trans rfl
  have c2 : w.cell? (A.add (1 + 1)) = some (.int .i64 u.b) := by rw [← hA]; exact (h.word hu 2 (by omega)).trans rfl
  have c3 : w.cell? (A.add (2 + 1)) = some (.string u.text) := by rw [← hA]; exact (h.word hu 3 (by omega)).trans rfl
  have c4 : w.cell? (A.add (3 + 1)) = some (.int .i64 u.man) := by rw [← hA]; exact (h.word hu 4 (by omega)).trans rfl
  have c5 : w.cell? (A.add (4 + 1)) = some (.int .i64 u.exp) := by rw [← hA]; exact (h.word hu 5 (by omega)).trans rfl
  rw [Addr.add_zero'] at c0
  rw [Addr.add_succ'] at c1 c2 c3 c4 c5
  exact ⟨c0, c1, c2, c3, c4, c5⟩
theorem take_eq_step {α : Type} [DecidableEq α] {us vs : List α} {k : Nat} {u v : α} (hu : us[k]? = some u) (hv : vs[k]? = some v) (h : us.take k = vs.take k) (e : u = v) : us.take (k + 1) = vs.take (k + 1) := by
  rw [List.take_add_one, List.take_add_one, h, hu, hv, e]

set_option maxRecDepth 100000 in
set_option maxHeartbeats 2000000 in
theorem sameWords_any {w : World} {a b : Value} {us vs : List Wd} (ha : RdW w a us) (hb : RdW w b vs) (hl : us.length ≤ 2000000) (hl' : vs.length ≤ 2000000) :
    Calls Try.prog 25 #[a, b] w fun e w' => e = .returned (.bool (decide (us = vs))) ∧ Ext w w' := by
  have Ha := Lib.hid ha; have Hb := Lib.hid hb
  obtain ⟨aa, ac, rfl, ha1, -⟩ := ha
  obtain ⟨ba, bc, rfl, hb1, -⟩ := hb
  by_cases hlen : us.length = vs.length
  · have HL := Lib.hid hlen
    rw [← hlen] at Hb
    clear hlen hl'
    have Ha1 := Lib.hid ha1; have Hb1 := Lib.hid hb1
    clear ha1 hb1
    rw [← HL.out]
    go_enter Try.func25, Try.ntmps25
    go_wp2
    go_loopw [5] (fun i wr => ∃ k : Nat, k ≤ us.length ∧ i = .int .i64 k ∧ Hid (Ext w wr) ∧ Hid (us.take k = vs.take k)) (fun i wr => us.length - (intOf i).toNat)
    case atStart => exact ⟨0, Nat.zero_le _, rfl, Ext.refl _, by simp [Hid]⟩
    case round =>
      obtain ⟨k, hk, rfl, HX, HT⟩ := hrel
      by_cases hlt : k < us.length
      · obtain ⟨u, hu⟩ : ∃ u, us[k]? = some u := ⟨_, List.getElem?_eq_getElem hlt⟩
        obtain ⟨v, hv⟩ : ∃ v, vs[k]? = some v := ⟨_, List.getElem?_eq_getElem (by rw [← HL.out]; exact hlt)⟩
        cases aa with
        | none => rw [Ha1.out rfl] at hlt; simp at hlt
        | some ad =>
        cases ba with
        | none => rw [Hb1.out rfl] at hv; simp at hv
        | some bd =>
        obtain ⟨A, hA⟩ : ∃ A, ad.add (k * 6) = A := ⟨_, rfl⟩
        obtain ⟨B, hB⟩ : ∃ B, bd.add (k * 6) = B := ⟨_, rfl⟩
        obtain ⟨a0, a1, a2, a3, a4, a5⟩ := (Ha.out.ext HX.out).six hu hA
        obtain ⟨b0, b1, b2, b3, b4, b5⟩ := (Hb.out.ext HX.out).six hv hB
        have Hu := Lib.hid hu; have Hv := Lib.hid hv
        clear hu hv
        have hne := run_neqW u v
        unfold Wd.val Wd.cells at hne
        go_wp2
        go_region
        clear a0 a1 a2 a3 a4 a5 b0 b1 b2 b3 b4 b5 hne hA hB
        by_cases e : u = v
        · rw [decide_eq_true e]
          have E := Lib.hid e
          clear e
          go_wp2
          go_roundw
          case rel => exact ⟨k + 1, by omega, by go_num, Lib.hid HX.out.drew, Lib.hid (take_eq_step Hu.out Hv.out HT.out E.out)⟩
          case measure => simp [intOf]; omega
        · rw [decide_eq_false e]
          have E := Lib.hid e
          clear e
          go_wp2
          go_ret
          refine ⟨?_, HX.out.drew⟩
          rw [decide_eq_false]; rfl
          rintro rfl
          have := Hu.out; rw [Hv.out] at this; injection this with this; exact E.out this.symm
      · have hkn : k = us.length := by omega
        subst hkn
        have hvl : vs.take us.length = vs := by rw [HL.out, List.take_length]
        have Huv : Hid (us = vs) := Lib.hid (by have := HT.out; rw [List.take_length, hvl] at this; exact this)
        clear hvl
        go_wp2
        go_ret
        exact ⟨by rw [decide_eq_true Huv.out]; rfl, HX.out⟩
  · have hne : us ≠ vs := fun e => hlen (by rw [e])
    have Hne := Lib.hid hne
    clear hne ha1 hb1
    go_enter Try.func25, Try.ntmps25
    go_wp2
    go_ret
    exact ⟨by rw [decide_eq_false Hne.out]; rfl, Ext.refl _⟩

end Go.Proofs.Ytikigppfnhilhaa
