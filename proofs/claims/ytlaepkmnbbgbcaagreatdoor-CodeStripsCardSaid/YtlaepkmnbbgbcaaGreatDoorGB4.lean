/- A descriptor in a box of its own. chainFits: the chain of a descriptor. A region that draws its order: operations that come to the same in every world of S may come at any time; the others come one behind the other. -/
import Derived.Test.YtlaepkmnbbgbcaaGreatDoorGB3
import Derived.Deep.Cut
import Derived.Test.YtlaepkmnbbgbcaaGreatDoorGB1
import Derived.OrdersIn
import Derived.Still
import Derived.StillTail
import Derived.TacticsIn
import Derived.RangeFuncCalls
/- A descriptor in a box of its own. -/
namespace Go.Proofs.YtlaepkmnbbgbcaaGreatDoor
open Go.RowKit Go.Instr
set_option linter.unusedVariables false
set_option linter.unusedSimpArgs false
attribute [local go_sem] Oper.semAt_some

theorem list_11 {α : Type} {z : Array α} (h : z.size = 11) : ∃ a b c d e f g i j k m, z = #[a, b, c, d, e, f, g, i, j, k, m] := by
  obtain ⟨l⟩ := z
  simp only [List.size_toArray] at h
  match l, h with
  | [a, b, c, d, e, f, g, i, j, k, m], _ => exact ⟨a, b, c, d, e, f, g, i, j, k, m, rfl⟩
theorem list_4 {α : Type} {z : Array α} (h : z.size = 4) : ∃ a b c d, z = #[a, b, c, d] := by
  obtain ⟨l⟩ := z
  simp only [List.size_toArray] at h
  match l, h with
  | [a, b, c, d], _ => exact ⟨a, b, c, d, rfl⟩
theorem list_3 {α : Type} {z : Array α} (h : z.size = 3) : ∃ a b c, z = #[a, b, c] := by
  obtain ⟨l⟩ := z
  simp only [List.size_toArray] at h
  match l, h with
  | [a, b, c], _ => exact ⟨a, b, c, rfl⟩
/-- Eleven cells written. -/
def store11 (w : World) (b : Nat) (v0 v1 v2 v3 v4 v5 v6 v7 v8 v9 v10 : Value) : World :=
  ((((((((((w.setCell ⟨b, 0, none⟩ v0).setCell ⟨b, 1, none⟩ v1).setCell ⟨b, 2, none⟩ v2).setCell ⟨b, 3, none⟩ v3).setCell ⟨b, 4, none⟩ v4).setCell ⟨b, 5, none⟩ v5).setCell ⟨b, 6, none⟩ v6).setCell ⟨b, 7, none⟩ v7).setCell ⟨b, 8, none⟩ v8).setCell ⟨b, 9, none⟩ v9).setCell ⟨b, 10, none⟩ v10
theorem Blk.put11 {w : World} {b : Nat} {z : Array Value} {t : TypeId} (h : Blk w b z t) (hz : z.size = 11) (v0 v1 v2 v3 v4 v5 v6 v7 v8 v9 v10 : Value) : Blk (store11 w b v0 v1 v2 v3 v4 v5 v6 v7 v8 v9 v10) b #[v0, v1, v2, v3, v4, v5, v6, v7, v8, v9, v10] t := by
  obtain ⟨a, c, d, e, f, g, i, j, k, m, n, rfl⟩ := list_11 hz
  have h0 : Blk (w.setCell ⟨b, 0, none⟩ v0) b #[v0, c, d, e, f, g, i, j, k, m, n] t := h.set 0 v0
  have h1 : Blk ((w.setCell ⟨b, 0, none⟩ v0).setCell ⟨b, 1, none⟩ v1) b #[v0, v1, d, e, f, g, i, j, k, m, n] t := h0.set 1 v1
  have h2 : Blk (((w.setCell ⟨b, 0, none⟩ v0).setCell ⟨b, 1, none⟩ v1).setCell ⟨b, 2, none⟩ v2) b #[v0, v1, v2, e, f, g, i, j, k, m, n] t := h1.set 2 v2
  have h3 : Blk ((((w.setCell ⟨b, 0, none⟩ v0).setCell ⟨b, 1, none⟩ v1).setCell ⟨b, 2, none⟩ v2).setCell ⟨b, 3, none⟩ v3) b #[v0, v1, v2, v3, f, g, i, j, k, m, n] t := h2.set 3 v3
  have h4 : Blk (((((w.setCell ⟨b, 0, none⟩ v0).setCell ⟨b, 1, none⟩ v1).setCell ⟨b, 2, none⟩ v2).setCell ⟨b, 3, none⟩ v3).setCell ⟨b, 4, none⟩ v4) b #[v0, v1, v2, v3, v4, g, i, j, k, m, n] t := h3.set 4 v4
  have h5 : Blk ((((((w.setCell ⟨b, 0, none⟩ v0).setCell ⟨b, 1, none⟩ v1).setCell ⟨b, 2, none⟩ v2).setCell ⟨b, 3, none⟩ v3).setCell ⟨b, 4, none⟩ v4).setCell ⟨b, 5, none⟩ v5) b #[v0, v1, v2, v3, v4, v5, i, j, k, m, n] t := h4.set 5 v5
  have h6 : Blk (((((((w.setCell ⟨b, 0, none⟩ v0).setCell ⟨b, 1, none⟩ v1).setCell ⟨b, 2, none⟩ v2).setCell ⟨b, 3, none⟩ v3).setCell ⟨b, 4, none⟩ v4).setCell ⟨b, 5, none⟩ v5).setCell ⟨b, 6, none⟩ v6) b #[v0, v1, v2, v3, v4, v5, v6, j, k, m, n] t := h5.set 6 v6
  have h7 : Blk ((((((((w.setCell ⟨b, 0, none⟩ v0).setCell ⟨b, 1, none⟩ v1).setCell ⟨b, 2, none⟩ v2).setCell ⟨b, 3, none⟩ v3).setCell ⟨b, 4, none⟩ v4).setCell ⟨b, 5, none⟩ v5).setCell ⟨b, 6, none⟩ v6).setCell ⟨b, 7, none⟩ v7) b #[v0, v1, v2, v3, v4, v5, v6, v7, k, m, n] t := h6.set 7 v7
  have h8 : Blk (((((((((w.setCell ⟨b, 0, none⟩ v0).setCell ⟨b, 1, none⟩ v1).setCell ⟨b, 2, none⟩ v2).setCell ⟨b, 3, none⟩ v3).setCell ⟨b, 4, none⟩ v4).setCell ⟨b, 5, none⟩ v5).setCell ⟨b, 6, none⟩ v6).setCell ⟨b, 7, none⟩ v7).setCell ⟨b, 8, none⟩ v8) b #[v0, v1, v2, v3, v4, v5, v6, v7, v8, m, n] t := h7.set 8 v8
  have h9 : Blk ((((((((((w.setCell ⟨b, 0, none⟩ v0).setCell ⟨b, 1, none⟩ v1).setCell ⟨b, 2, none⟩ v2).setCell ⟨b, 3, none⟩ v3).setCell ⟨b, 4, none⟩ v4).setCell ⟨b, 5, none⟩ v5).setCell ⟨b, 6, none⟩ v6).setCell ⟨b, 7, none⟩ v7).setCell ⟨b, 8, none⟩ v8).setCell ⟨b, 9, none⟩ v9) b #[v0, v1, v2, v3, v4, v5, v6, v7, v8, v9, n] t := h8.set 9 v9
  have h10 : Blk (((((((((((w.setCell ⟨b, 0, none⟩ v0).setCell ⟨b, 1, none⟩ v1).setCell ⟨b, 2, none⟩ v2).setCell ⟨b, 3, none⟩ v3).setCell ⟨b, 4, none⟩ v4).setCell ⟨b, 5, none⟩ v5).setCell ⟨b, 6, none⟩ v6).setCell ⟨b, 7, none⟩ v7).setCell ⟨b, 8, none⟩ v8).setCell ⟨b, 9, none⟩ v9).setCell ⟨b, 10, none⟩ v10) b #[v0, v1, v2, v3, v4, v5, v6, v7, v8, v9, v10] t := h9.set 10 v10
  exact h10
theorem Keeps.put11 {S : Nat → Prop} {a w : World} (h : Keeps S a w) {b : Nat} (hb : S b ∨ a.heap.size ≤ b) (v0 v1 v2 v3 v4 v5 v6 v7 v8 v9 v10 : Value) : Keeps S a (store11 w b v0 v1 v2 v3 v4 v5 v6 v7 v8 v9 v10) := by
  have h0 := h.setCell (p := ⟨b, 0, none⟩) hb v0
  have h1 := h0.setCell (p := ⟨b, 1, none⟩) hb v1
  have h2 := h1.setCell (p := ⟨b, 2, none⟩) hb v2
  have h3 := h2.setCell (p := ⟨b, 3, none⟩) hb v3
  have h4 := h3.setCell (p := ⟨b, 4, none⟩) hb v4
  have h5 := h4.setCell (p := ⟨b, 5, none⟩) hb v5
  have h6 := h5.setCell (p := ⟨b, 6, none⟩) hb v6
  have h7 := h6.setCell (p := ⟨b, 7, none⟩) hb v7
  have h8 := h7.setCell (p := ⟨b, 8, none⟩) hb v8
  have h9 := h8.setCell (p := ⟨b, 9, none⟩) hb v9
  have h10 := h9.setCell (p := ⟨b, 10, none⟩) hb v10
  exact h10
theorem Blk.put11_far {w : World} {b b' : Nat} {z : Array Value} {t : TypeId} (h : Blk w b' z t) (hne : b' ≠ b) (v0 v1 v2 v3 v4 v5 v6 v7 v8 v9 v10 : Value) : Blk (store11 w b v0 v1 v2 v3 v4 v5 v6 v7 v8 v9 v10) b' z t := by
  have h0 := h.far (a := ⟨b, 0, none⟩) hne v0
  have h1 := h0.far (a := ⟨b, 1, none⟩) hne v1
  have h2 := h1.far (a := ⟨b, 2, none⟩) hne v2
  have h3 := h2.far (a := ⟨b, 3, none⟩) hne v3
  have h4 := h3.far (a := ⟨b, 4, none⟩) hne v4
  have h5 := h4.far (a := ⟨b, 5, none⟩) hne v5
  have h6 := h5.far (a := ⟨b, 6, none⟩) hne v6
  have h7 := h6.far (a := ⟨b, 7, none⟩) hne v7
  have h8 := h7.far (a := ⟨b, 8, none⟩) hne v8
  have h9 := h8.far (a := ⟨b, 9, none⟩) hne v9
  have h10 := h9.far (a := ⟨b, 10, none⟩) hne v10
  exact h10
end Go.Proofs.YtlaepkmnbbgbcaaGreatDoor
/- chainFits: the chain of a descriptor. -/
namespace Go.Proofs.YtlaepkmnbbgbcaaGreatDoor
open Go.RowKit Go.Instr
set_option linter.unusedVariables false
set_option linter.unusedSimpArgs false
attribute [local go_sem] Oper.semAt_some

theorem RdCo.de_at {w : World} {dv lv tv rv iv : Value} {c : Co} {xs : List DeV} (h : RdCo w dv lv tv rv iv c xs) {i : Nat} {x : DeV} (hx : xs[i]? = some x) : c.de i = x.d := by
  unfold Co.de
  rw [← h.eq, List.getD_eq_getElem?_getD, Int.toNat_natCast, List.getElem?_map, hx]; rfl
/-- The cells of a descriptor, by name. -/
theorem RdL.deCells {w : World} {ad : Addr} {n cp : Nat} {xs : List DeV} (h : RdL encD w (.slice (some ad) n cp) xs) {i : Nat} {x : DeV} (hx : xs[i]? = some x) {A : Addr} (hA : ad.add (i * 11) = A) :
    w.cell? A = some (.int .i64 x.d.around) ∧ w.cell? ⟨A.block, A.off + 1, none⟩ = some x.chain ∧ w.cell? ⟨A.block, A.off + 2, none⟩ = some x.up ∧ w.cell? ⟨A.block, A.off + 3, none⟩ = some (.int .i64 x.d.offset) ∧ w.cell? ⟨A.block, A.off + 4, none⟩ = some (.int .i64 x.d.cells) ∧ w.cell? ⟨A.block, A.off + 5, none⟩ = some x.virts ∧
    w.cell? ⟨A.block, A.off + 6, none⟩ = some (.int .i64 x.d.init) ∧ w.cell? ⟨A.block, A.off + 7, none⟩ = some (.int .i64 x.d.enter) ∧ w.cell? ⟨A.block, A.off + 8, none⟩ = some (.int .i64 x.d.do_) ∧ w.cell? ⟨A.block, A.off + 9, none⟩ = some (.int .i64 x.d.exit) ∧ w.cell? ⟨A.block, A.off + 10, none⟩ = some (.int .i64 x.d.stack) := by
  subst hA
  have g := fun j hj => h.at encD_len hx j hj
  exact ⟨by have := g 0 (by omega); rw [Addr.add_zero'] at this; exact this.trans rfl, (g 1 (by omega)).trans rfl, (g 2 (by omega)).trans rfl, (g 3 (by omega)).trans rfl, (g 4 (by omega)).trans rfl, (g 5 (by omega)).trans rfl, (g 6 (by omega)).trans rfl, (g 7 (by omega)).trans rfl, (g 8 (by omega)).trans rfl, (g 9 (by omega)).trans rfl, (g 10 (by omega)).trans rfl⟩

theorem chainB_empty {c : Co} {i : Nat} {d : De} (h : d.chain.length = 0) : chainB c i d = false := by
  unfold chainB
  rw [List.length_eq_zero_iff.1 h]; simp
theorem chainB_long {c : Co} {i : Nat} {d : De} (h : 40 < d.chain.length) : chainB c i d = false := by
  unfold chainB
  rw [show decide (d.chain.length ≤ 40) = false from decide_eq_false (by omega)]; simp
theorem chainB_last {c : Co} {i : Nat} {d : De} (h : ¬ d.chain.getD (d.chain.length - 1) 0 = i) : chainB c i d = false := by
  unfold chainB
  rw [show decide (d.chain.getD (d.chain.length - 1) 0 = (i : Int)) = false from decide_eq_false h]; simp
theorem chainB_up {c : Co} {i : Nat} {d : De} (h : ¬ d.up.length = d.chain.length) : chainB c i d = false := by
  unfold chainB
  rw [show decide (d.up.length = d.chain.length) = false from decide_eq_false h]; simp
theorem chainB_zero {c : Co} {i : Nat} {d : De} (h : ¬ d.up.getD (d.chain.length - 1) 0 = 0) : chainB c i d = false := by
  unfold chainB
  rw [show decide (d.up.getD (d.chain.length - 1) 0 = 0) = false from decide_eq_false h]; simp
theorem chainB_level {c : Co} {i : Nat} {d : De} {k : Nat} (hk : k < d.chain.length) (h : levelB c d k = false) : chainB c i d = false := by
  unfold chainB
  rw [show (List.range d.chain.length).all (levelB c d) = false from List.all_eq_false.2 ⟨k, List.mem_range.2 hk, by rw [h]; simp⟩]; simp
theorem chainB_true {c : Co} {i : Nat} {d : De} {m : Nat} (h0 : d.chain.length = m + 1) (h1 : m + 1 ≤ 40) (h2 : d.chain.getD m 0 = i) (h3 : d.up.length = m + 1) (h4 : d.up.getD m 0 = 0) (hl : ∀ k, k < m + 1 → levelB c d k = true) : chainB c i d = true := by
  unfold chainB
  rw [show (List.range d.chain.length).all (levelB c d) = true from List.all_eq_true.2 fun k hk => hl k (by rw [← h0]; exact List.mem_range.1 hk)]
  have : d.chain ≠ [] := by rintro e; rw [e] at h0; simp at h0
  rw [h0, h3, Nat.add_sub_cancel, h2, h4]
  simp [this, h1]
/-- An int of a list, in memory. -/
theorem RdL.int_at {w : World} {ad : Addr} {n cp : Nat} {l : List Int} (h : RdL encI w (.slice (some ad) n cp) l) {k : Nat} (hk : k < l.length) : w.cell? (ad.add k) = some (.int .i64 (l.getD k 0)) := by
  have := h.at encI_len (List.getElem?_eq_getElem hk) 0 (by omega)
  rw [Addr.add_zero', Nat.mul_one] at this
  rw [this, List.getD_eq_getElem?_getD, List.getElem?_eq_getElem hk]; rfl

set_option maxRecDepth 100000 in
set_option maxHeartbeats 2000000 in
theorem chainFits_any {w : World} {dv lv tv rv iv : Value} {c : Co} {xs : List DeV} (h : RdCo w dv lv tv rv iv c xs) (hb : Big c) (i : Nat) (hi : i < c.descs.length) :
    Calls Tryz.prog 120 #[codeV dv lv tv rv iv, .int .i64 i] w fun e w' => e = .returned (.bool (chainB c i (c.de i))) ∧ Ex w w' := by
  obtain ⟨da, dc, rfl, -, hd1, -⟩ := id h.ds
  obtain ⟨la, lc, rfl, -⟩ := id h.ls
  obtain ⟨ta, tc, rfl, -⟩ := id h.ts
  obtain ⟨ra, rc, rfl, -⟩ := id h.rs
  obtain ⟨ia, ic, rfl, -⟩ := id h.is
  have hn := h.len
  have hi' : i < xs.length := by omega
  obtain ⟨x, hx⟩ : ∃ x, xs[i]? = some x := ⟨_, List.getElem?_eq_getElem hi'⟩
  have hde := h.de_at hx
  have hD := h.de x (List.mem_of_getElem? hx)
  rw [hde]
  obtain ⟨d, cv, uv, vv⟩ := x
  simp only at hde ⊢
  generalize hB : chainB c i d = B
  obtain ⟨ca, cc, ec, hc0, hc1, -⟩ := id hD.chain
  obtain ⟨ua, uc, eu, -, hu1, -⟩ := id hD.up
  obtain ⟨va, vc, ev, -, -, -⟩ := id hD.virts
  simp only at ec eu ev hc0 hc1 hu1 hD
  subst ec; subst eu; subst ev
  obtain ⟨ad, rfl⟩ : ∃ ad, da = some ad := by
    cases da with
    | none => have := hd1 rfl; subst this; simp at hi'
    | some ad => exact ⟨ad, rfl⟩
  obtain ⟨A, hA⟩ : ∃ A, ad.add (i * 11) = A := ⟨_, rfl⟩
  obtain ⟨W1, hW1⟩ : ∃ W1, w.alloc (.cells #[.slice (some ad) xs.length dc, .slice la c.labels.length lc, .slice ta c.texts.length tc, .slice ra c.reals.length rc, .slice ia c.instrs.length ic] 28) = W1 := ⟨_, rfl⟩
  obtain ⟨b0, hb0⟩ : ∃ b0, w.heap.size = b0 := ⟨_, rfl⟩
  have hX1 : Ex w W1 := by rw [← hW1]; exact (Keeps.refl _ w).alloc _
  have hB0 : Blk W1 b0 #[.slice (some ad) xs.length dc, .slice la c.labels.length lc, .slice ta c.texts.length tc, .slice ra c.reals.length rc, .slice ia c.instrs.length ic] 28 := by rw [← hW1, ← hb0]; exact Blk.new w _ _
  have hs1 : W1.heap.size = b0 + 1 := by rw [← hW1, ← hb0, World.size_alloc]
  have x0 : W1.cell? ⟨b0, 0, none⟩ = some (.slice (some ad) xs.length dc) := (hB0.cell 0).trans rfl
  obtain ⟨e0, e1, e2, e3, e4, e5, e6, e7, e8, e9, e10⟩ := (h.ds.ext hX1).deCells hx hA
  obtain ⟨W2, hW2⟩ : ∃ W2, W1.alloc (.cells (encD ⟨d, .slice ca d.chain.length cc, .slice ua d.up.length uc, .slice va d.virts.length vc⟩).toArray 50) = W2 := ⟨_, rfl⟩
  obtain ⟨b1, hb1⟩ : ∃ b1, W1.heap.size = b1 := ⟨_, rfl⟩
  have hX2 : Ex w W2 := by rw [← hW2]; exact hX1.alloc _
  have hX12 : Ex W1 W2 := by rw [← hW2]; exact (Keeps.refl _ W1).alloc _
  have hB1 : Blk W2 b1 (encD ⟨d, .slice ca d.chain.length cc, .slice ua d.up.length uc, .slice va d.virts.length vc⟩).toArray 50 := by rw [← hW2, ← hb1]; exact Blk.new W1 _ _
  unfold encD at hW2 hB1
  have hlx : xs.length ≤ 1000000 := by have := hb.d; omega
  have H := Lib.hid h; have HX1 := Lib.hid hX1; have HB0 := Lib.hid (hX12.blk hB0 id); have HD := Lib.hid hD; have HN := Lib.hid hn; have HXx := Lib.hid hx; have HB1 := Lib.hid hB1; have HX2 := Lib.hid hX2
  have HW1 := Lib.hid hW1; have Hb0 := Lib.hid hb0; have Hde := Lib.hid hde; have Hc1 := Lib.hid hc1; have Hu1 := Lib.hid hu1; have Hb := Lib.hid hb; have Hc0 := Lib.hid hc0; have HW2 := Lib.hid hW2; have Hb1 := Lib.hid hb1; have HB := Lib.hid hB; have HA := Lib.hid hA
  clear h hX1 hB0 hD hs1 hn hx hW1 hb0 hde hd1 hc1 hu1 hb hc0 hX2 hX12 hB1 hW2 hb1 hB
  unfold codeV
  simp only at e0 e1 e2 e3 e4 e5 e6 e7 e8 e9 e10
  go_enter Tryz.func120, Tryz.ntmps120
  go_upto_region 1 with fail
  try rw [HW1.out]
  try rw [Hb0.out]
  go_upto_region 2 with fail
  rw [HW2.out, Hb1.out]
  clear e0 e1 e2 e3 e4 e5 e6 e7 e8 e9 e10 x0
  have HF0 : ∀ V, Ex W2 V → Hid (V.cell? ⟨b0, 0, none⟩ = some (.slice (some ad) xs.length dc) ∧ V.cell? ⟨b1, 1, none⟩ = some (.slice ca d.chain.length cc) ∧ V.cell? ⟨b1, 2, none⟩ = some (.slice ua d.up.length uc)) := fun V hV =>
    ⟨((hV.blk HB0.out id).cell 0).trans rfl, ((hV.blk HB1.out id).cell 1).trans rfl, ((hV.blk HB1.out id).cell 2).trans rfl⟩
  obtain ⟨x0, y1, y2⟩ := (HF0 W2 (Keeps.refl _ _)).out
  have hcl : d.chain.length ≤ 1000000 := (Hb.out.e d (by rw [← H.out.eq]; exact List.mem_map.2 ⟨_, List.mem_of_getElem? HXx.out, rfl⟩)).1
  have hul : d.up.length ≤ 1000000 := (Hb.out.e d (by rw [← H.out.eq]; exact List.mem_map.2 ⟨_, List.mem_of_getElem? HXx.out, rfl⟩)).2.1
  go_upto_region 3 with fail
  cases hlen : d.chain.length with
  | zero =>
    have e : B = false := by rw [← HB.out]; exact chainB_empty hlen
    subst e
    rw [hlen] at y1
    go_wp2_with fail
    go_ret
    exact ⟨rfl, HX2.out⟩
  | succ m =>
    obtain ⟨cad, rfl⟩ : ∃ a, ca = some a := by
      cases ca with
      | none => have := Hc1.out rfl; rw [this] at hlen; simp at hlen
      | some a => exact ⟨a, rfl⟩
    have hRC := HD.out.chain
    simp only at hRC
    have HRC := Lib.hid hRC
    have z1 : W2.cell? (cad.add m) = some (.int .i64 (d.chain.getD m 0)) := (hRC.ext HX2.out).int_at (by omega)
    clear hRC
    have HL := Lib.hid hlen
    rw [hlen] at y1 hcl
    clear hlen
    have hz := HL.out
    by_cases a1 : (m : Int) + 1 > 40
    · -- too long
      have e : B = false := by rw [← HB.out]; exact chainB_long (by rw [HL.out]; omega)
      subst e
      clear hz
      go_wp2_with fail
      go_ret
      exact ⟨rfl, HX2.out⟩
    by_cases a2 : d.chain.getD m 0 = (i : Int)
    case neg =>
      have e : B = false := by rw [← HB.out]; exact chainB_last (by rw [HL.out]; exact a2)
      subst e
      clear hz
      generalize d.chain.getD m 0 = X at z1 a2
      go_wp2_with fail
      go_ret
      exact ⟨rfl, HX2.out⟩
    by_cases a3 : (d.up.length : Int) = (m : Int) + 1
    case neg =>
      have e : B = false := by rw [← HB.out]; exact chainB_up (by rw [HL.out]; omega)
      subst e
      clear hz
      rw [a2] at z1
      go_wp2_with fail
      go_ret
      exact ⟨rfl, HX2.out⟩
    have a3' : d.up.length = m + 1 := by omega
    obtain ⟨uad, rfl⟩ : ∃ a, ua = some a := by
      cases ua with
      | none => have := Hu1.out rfl; rw [this] at a3'; simp at a3'
      | some a => exact ⟨a, rfl⟩
    have hRU := HD.out.up
    simp only at hRU
    have HRU := Lib.hid hRU
    have z2 : W2.cell? (uad.add m) = some (.int .i64 (d.up.getD m 0)) := (hRU.ext HX2.out).int_at (by omega)
    have HU := Lib.hid a3'
    have HA2 := Lib.hid a2
    rw [a3'] at y2
    rw [a2] at z1
    clear hRU a3 a3' hul a2 hz
    by_cases a4 : d.up.getD m 0 = 0
    case neg =>
      have e : B = false := by rw [← HB.out]; exact chainB_zero (by rw [HL.out]; exact a4)
      subst e
      generalize d.up.getD m 0 = X at z2 a4
      have a5 : (X != 0) = true := by simpa using a4
      go_wp2_with fail
      go_ret
      exact ⟨rfl, HX2.out⟩
    have HA4 := Lib.hid a4
    rw [a4] at z2
    clear a4
    go_wp2_with fail
    clear y1 y2 z1 z2 x0
    go_loopw [52] (fun s wr => ∃ k : Nat, k ≤ m + 1 ∧ s = .int .i64 k ∧ Hid (Ex W2 wr) ∧ Hid (∀ j, j < k → levelB c d j = true)) (fun s wr => m + 1 - (intOf s).toNat)
    case atStart => exact ⟨0, Nat.zero_le _, rfl, Keeps.refl _ _, fun j hj => by omega⟩
    case round =>
      obtain ⟨k, hk, rfl, HX, HP⟩ := hrel
      by_cases hlt : k < m + 1
      case neg =>
        have : k = m + 1 := by omega
        subst this
        have e : B = true := by rw [← HB.out]; exact chainB_true HL.out (by omega) HA2.out HU.out HA4.out HP.out
        subst e
        go_wp2_with fail
        go_ret
        exact ⟨rfl, HX2.out.trans HX.out⟩
      obtain ⟨x0, y1, y2⟩ := (HF0 wr HX.out).out
      rw [HL.out] at y1
      rw [HU.out] at y2
      have hXw := HX2.out.trans HX.out
      have z1 : wr.cell? (cad.add k) = some (.int .i64 (d.chain.getD k 0)) := (HRC.out.ext hXw).int_at (by rw [HL.out]; exact hlt)
      have z2 : wr.cell? (uad.add k) = some (.int .i64 (d.up.getD k 0)) := (HRU.out.ext hXw).int_at (by rw [HU.out]; exact hlt)
      have HXw := Lib.hid hXw
      generalize hE : d.chain.getD k 0 = E at z1
      generalize hU : d.up.getD k 0 = U at z2
      have HE := Lib.hid hE; have HUU := Lib.hid hU
      clear hE hU hXw
      have bad : ∀ P, (levelB c d k = P) → P = false → B = false := fun P h1 h2 => by rw [← HB.out]; exact chainB_level (by rw [HL.out]; exact hlt) (h1.trans h2)
      have hlv : levelB c d k = (decide (0 ≤ E) && decide (E < (c.descs.length : Nat)) && decide (0 ≤ U) && decide (U ≤ 2000) && (decide (¬ k < m) || decide ((c.de E).chain = d.chain.take (k + 1)))) := by
        unfold levelB; rw [HE.out, HUU.out, HL.out, Nat.add_sub_cancel]
      have Hlv := Lib.hid hlv; have Hbad := Lib.hid bad
      clear hlv bad
      go_upto_region 8 with fail
      by_cases b1' : E < 0
      · have e : B = false := Hbad.out _ Hlv.out (by rw [show decide (0 ≤ E) = false from decide_eq_false (by omega)]; simp)
        subst e
        go_quiet (fail)
        go_wp2_with fail
        go_ret
        exact ⟨rfl, HXw.out.drewN _⟩
      by_cases b2' : E < (xs.length : Nat)
      case neg =>
        have e : B = false := Hbad.out _ Hlv.out (by rw [show decide (E < (c.descs.length : Nat)) = false from decide_eq_false (by have := HN.out; omega)]; simp)
        subst e
        have b3 : (xs.length : Int) ≤ E := by omega
        go_quiet (fail)
        go_wp2_with fail
        go_ret
        exact ⟨rfl, HXw.out.drewN _⟩
      have b2n : ¬ (xs.length : Int) ≤ E := by omega
      by_cases b3' : U < 0
      · have e : B = false := Hbad.out _ Hlv.out (by rw [show decide (0 ≤ U) = false from decide_eq_false (by omega)]; simp)
        subst e
        go_quiet (fail)
        go_wp2_with fail
        go_ret
        exact ⟨rfl, HXw.out.drewN _⟩
      by_cases b4' : 2000 < U
      · have e : B = false := Hbad.out _ Hlv.out (by rw [show decide (U ≤ 2000) = false from decide_eq_false (by omega)]; simp)
        subst e
        go_quiet (fail)
        go_wp2_with fail
        go_ret
        exact ⟨rfl, HXw.out.drewN _⟩
      have hlen4 : (decide (0 ≤ E) && decide (E < (c.descs.length : Nat)) && decide (0 ≤ U) && decide (U ≤ 2000)) = true := by
        have := HN.out
        simp; omega
      have Hlen4 := Lib.hid hlen4
      clear hlen4
      by_cases b5' : k < m
      case neg =>
        have hnew : Hid (∀ j, j < k + 1 → levelB c d j = true) := Lib.hid (fun j hj => by
          by_cases e : j = k
          · subst e; rw [Hlv.out, Hlen4.out]; simp [b5']
          · exact HP.out j (by omega))
        have b5n : ¬ (k : Int) < (m : Int) := by omega
        go_quiet (fail)
        go_wp2_with fail
        go_roundw
        case rel => exact ⟨k + 1, by omega, by go_num, HX.out.drewN _, hnew⟩
        case measure => simp [intOf]; omega
      obtain ⟨ei, rfl⟩ : ∃ ei : Nat, E = (ei : Int) := ⟨E.toNat, by omega⟩
      have hei : ei < xs.length := by omega
      obtain ⟨y, hy⟩ : ∃ y, xs[ei]? = some y := ⟨_, List.getElem?_eq_getElem hei⟩
      have hyd := H.out.de_at hy
      have hYD := H.out.de y (List.mem_of_getElem? hy)
      have hYL := (Hb.out.e y.d (by rw [← H.out.eq]; exact List.mem_map.2 ⟨_, List.mem_of_getElem? hy, rfl⟩)).1
      obtain ⟨D, hDd⟩ : ∃ D, ad.add (ei * 11) = D := ⟨_, rfl⟩
      have w1 := (((H.out.ds.ext HXw.out).deCells hy hDd).2.1)
      obtain ⟨yd, yc, yu, yv⟩ := y
      simp only at hyd hYD hYL w1
      obtain ⟨ya, ycp, eyc, -, -, -⟩ := id hYD.chain
      simp only at eyc
      subst eyc
      have hEq : ∀ q, Calls Tryz.prog 79 #[.slice ya yd.chain.length ycp, .slice (some cad) (k + 1) cc] (wr.drewN q) fun e w' => e = .returned (.bool (decide (yd.chain = d.chain.take (k + 1)))) ∧ ∃ m, w' = (wr.drewN q).drewN m := fun q =>
        EqualI_any (((hYD.ext HXw.out).ext ((Keeps.refl _ wr).drewN q)).chain) (((HRC.out.ext HXw.out).ext ((Keeps.refl _ wr).drewN q)).take encI_len (k + 1) (by rw [HL.out]; omega)) (by omega) (by rw [List.length_take, HL.out]; omega)
      have hQ : levelB c d k = decide (yd.chain = d.chain.take (k + 1)) := by
        rw [Hlv.out, Hlen4.out, hyd]; simp [b5']
      have hcap := Hc0.out
      rw [HL.out] at hcap
      have HQ := Lib.hid hQ
      have HEq := Lib.hid hEq
      clear hQ hEq hyd hYD hYL hy
      generalize decide (yd.chain = d.chain.take (k + 1)) = q at HQ HEq
      have b5i : (k : Int) < (m : Int) := by omega
      cases q with
      | false =>
        have e : B = false := Hbad.out _ HQ.out rfl
        subst e
        go_quiet ((go_at_call 79; exact Calls.quiet_of (HEq.out _)))
        go_wp2_with fail
        go_ret
        exact ⟨rfl, HXw.out.drewN _⟩
      | true =>
        have hnew : Hid (∀ j, j < k + 1 → levelB c d j = true) := Lib.hid (fun j hj => by
          by_cases e : j = k
          · subst e; exact HQ.out
          · exact HP.out j (by omega))
        go_quiet ((go_at_call 79; exact Calls.quiet_of (HEq.out _)))
        go_wp2_with fail
        go_roundw
        case rel => exact ⟨k + 1, by omega, by go_num, HX.out.drewN _, hnew⟩
        case measure => simp [intOf]; omega
end Go.Proofs.YtlaepkmnbbgbcaaGreatDoor
/- A region that draws its order: operations that come to the same in every world of S may come at any time; the others come one behind the other. -/
namespace Go.Proofs.YtlaepkmnbbgbcaaGreatDoor
open Go.RowKit Go.Instr
set_option linter.unusedVariables false
set_option linter.unusedSimpArgs false

/-- The wide fence, in a round or in none. -/
def WF (r : Option Nat) : Fence := { fn := fun _ => True, depth := none, alive := false, round := r }
@[simp, go_sem] theorem WF_fn (r : Option Nat) (f : FuncId) : (WF r).fn f = True := rfl
@[simp, go_sem] theorem WF_round (r : Option Nat) : (WF r).round = r := rfl
@[simp, go_sem] theorem WF_depth (r : Option Nat) : (WF r).depth = none := rfl
theorem WF_none : WF none = Fence.wide := rfl
theorem WF_some (l : Nat) : WF (some l) = Fence.wide.inRound l := rfl
theorem callsIn_WF {r : Option Nat} {n : Nat} {P : Program} {f : FuncId} {args : Array Value} {w : World} {R : Ending → World → Prop} (h : Calls P f args w R) : CallsIn (WF r) n P f args w R := by
  cases r with
  | none => exact callsIn_wide.2 h
  | some l => exact CallsIn.inRound l (callsIn_wide.2 h)

section
variable {r : Option Nat} {n : Nat} {P : Program} {ops : Array Oper} {Q : Exit → Act → World → Prop} {S : World → Prop} {f : Nat}

def Region.noDefer (ops : Array Oper) : Bool := ops.all fun o => match o.op with | .defer _ => false | _ => true
theorem noDefer_spec (h : Region.noDefer ops = true) {j : Nat} {o : Oper} (ho : ops[j]? = some o) (c : Call) : o.op ≠ .defer c := by
  intro heq
  have := Array.all_eq_true_iff_forall_mem.1 h o (Array.mem_of_getElem? ho)
  simp [heq] at this

theorem opIn_of_yields {i : Nat} {o : Oper} {v : Value} {a : Act} {w : World} (hd : Region.noDefer ops = true) (hi : ops[i]? = some o) (hy : YieldsAt P ops w o v a) {K : Act → World → Prop} (h : K (a.put o.dst v) w) :
    wpOpIn (WF r) n P ops Q i K a w := by
  unfold wpOpIn
  simp only [hi]
  rcases hy with ⟨hw, hv | ⟨hv, rfl⟩ | ⟨f, args, hv, hc⟩⟩ | ⟨hw, rfl⟩
  · simp only [hw, if_true, Oper.wpIn, Oper.semAt_eq _ _ _ (noDefer_spec hd hi), hv]; exact ⟨fun _ _ => trivial, h⟩
  · simp only [hw, if_true, Oper.wpIn, Oper.semAt_eq _ _ _ (noDefer_spec hd hi), hv]; exact ⟨fun _ _ => trivial, h⟩
  · simp only [hw, if_true, Oper.wpIn, Oper.semAt_eq _ _ _ (noDefer_spec hd hi), hv]
    refine ⟨fun _ _ => trivial, fun h => (by cases h), ?_⟩
    exact callsIn_WF (hc.mono fun e w'' ⟨h1, h2⟩ => by subst h1; subst h2; exact h)
  · simp only [hw, Bool.false_eq_true, if_false]; exact ⟨fun _ _ => trivial, h⟩

theorem yieldsAt_put {oi oj : Oper} {v : Value} (hap : oi.apart ops oj = true) (hsi : ∀ cs b, oi.op ≠ .select cs b) {a : Act} (hy : ∀ W, S W → YieldsAt P ops W oi v a) (u : Value) :
    ∀ W, S W → YieldsAt P ops W oi v (a.put oj.dst u) := fun W hW =>
  (hy W hW).of_same (execOp_put oi hsi a oj.dst u (Oper.apart_spec hap).2.2) (wanted_put oi a oj.dst u (Oper.apart_spec hap).2.2)

/-- What a quiet operation gives may be laid behind another one. -/
theorem opIn_put {j : Nat} {oi oj : Oper} {v : Value} (hd : Region.noDefer ops = true) (hj : ops[j]? = some oj) (hap : oi.apart ops oj = true) (hsi : ∀ cs b, oi.op ≠ .select cs b) (hsj : ∀ cs b, oj.op ≠ .select cs b)
    (hQ : ∀ c a w, Q (.panic c) (a.put oi.dst v) w → Q (.panic c) a w) {K : Act → World → Prop} {a : Act} {w : World}
    (hy : ∀ W, S W → YieldsAt P ops W oi v a) (h : wpOpIn (WF r) n P ops Q j K (a.put oi.dst v) w) :
    wpOpIn (WF r) n P ops Q j (fun a' w' => (∀ W, S W → YieldsAt P ops W oi v a') ∧ K (a'.put oi.dst v) w') a w := by
  obtain ⟨h1, h2, h3⟩ := Oper.apart_spec hap
  have keep := fun u => yieldsAt_put (S := S) hap hsi hy u
  unfold wpOpIn at *
  simp only [hj] at h ⊢
  rw [wanted_put oj a oi.dst v h1] at h
  split
  · rename_i hw
    simp only [hw, if_true] at h
    unfold Oper.wpIn at *
    refine ⟨fun _ _ => trivial, ?_⟩
    have h := h.2
    rw [Oper.semAt_eq _ _ _ (noDefer_spec hd hj)] at h ⊢
    rw [execOp_put oj hsj a oi.dst v h1] at h
    generalize (execOp a.eval oj).run P w = R at *
    cases R with
    | ok x w' =>
      cases x <;> simp only [Oper.uponIn] at h ⊢
      case value u => exact ⟨keep u, by rw [← Act.put_comm a v u h2]; exact h⟩
      case skip => exact ⟨keep _, by rw [← Act.put_comm a v undef h2]; exact h⟩
      case defer d =>
        refine ⟨fun W hW => ?_, ?_⟩
        · have := keep undef W hW
          exact YieldsAt.of_same (a := a.put oj.dst undef) this (by
            refine execOp_congr oi hsi fun x _ => ?_
            cases oj.dst <;> rfl) (by cases oj.dst <;> rfl)
        · rw [← Act.put_comm _ v undef h2, ← Act.put_defers]; exact h
      case enter f args =>
        refine ⟨h.1, CallsIn.mono h.2 fun e w'' he => ?_⟩
        cases e with
        | returned u => exact ⟨keep u, by rw [← Act.put_comm a v u h2]; exact he⟩
        | panicked c => exact hQ _ _ _ he
        | outgrown => exact he
      case row row args => exact ⟨h.1, RowsIn.mono h.2 fun u w'' he => ⟨keep u, by rw [← Act.put_comm a v u h2]; exact he⟩⟩
      case round l fn tmps assign body =>
        refine ⟨h.1, RoundIn.mono h.2 fun e w'' he => ?_⟩
        cases e with
        | returned u => exact ⟨keep u, by rw [← Act.put_comm a v u h2]; exact he⟩
        | panicked c => exact hQ _ _ _ he
        | outgrown => exact he
    | halt x w' =>
      cases x <;> simp only [Oper.uponIn] at h ⊢
      case panic u => exact hQ _ _ _ h
  · rename_i hw
    simp only [hw] at h
    exact ⟨fun _ _ => trivial, keep _, by rw [← Act.put_comm a v undef h2]; exact h.2⟩

/-- The region in any order; behind each operation but f the world is one of S. -/
def anyS (r : Option Nat) (n : Nat) (P : Program) (ops : Array Oper) (Q : Exit → Act → World → Prop) (S : World → Prop) (f : Nat) : Nat → Array Bool → Act → World → Prop
  | 0, listed, a, w => Region.ready .any ops listed = [] ∧ Q .normal a w
  | k + 1, listed, a, w =>
    (Region.ready .any ops listed = [] → Q .normal a w) ∧
    ∀ i ∈ Region.ready .any ops listed, wpOpIn (WF r) n P ops Q i (fun a' w' => (i = f ∨ S w') ∧ anyS r n P ops Q S f k (listed.setIfInBounds i true) a' w') a w

theorem anyS_sound : ∀ (k : Nat) (listed : Array Bool) (a : Act) (w : World), anyS r n P ops Q S f k listed a w → wpAnyIn (WF r) n P .any ops Q k listed a w
  | 0, _, _, _, h => h
  | k + 1, listed, a, w, h => ⟨h.1, fun i hi => wpOpIn_mono (fun a' w' h' => anyS_sound k _ a' w' h'.2) (h.2 i hi)⟩

/-- Does f wait for j (by at most so many steps)? -/
def Region.waitsB (ops : Array Oper) : Nat → Nat → Nat → Bool
  | 0, _, _ => false
  | k + 1, f, j => match ops[f]? with
    | none => false
    | some o => o.after.any fun e => Region.binds .any e && (e.on == j || Region.waitsB ops k e.on j)
/-- Does f wait for all others? -/
def Region.lastB (ops : Array Oper) (f : Nat) : Bool :=
  match ops[f]? with
  | none => true
  | some o => (List.range ops.size).all fun j => j == f || Region.waitsB ops 3 f j
/-- What is listed has all listed that it waits for. -/
def closedL (ops : Array Oper) (listed : Array Bool) : Prop := ∀ j oj, ops[j]? = some oj → listed.getD j false = true → ∀ e ∈ oj.after, Region.binds .any e = true → listed.getD e.on false = true
def Region.closedB (ops : Array Oper) (listed : Array Bool) : Bool :=
  (List.range ops.size).all fun j => match ops[j]? with
    | none => true
    | some oj => !listed.getD j false || oj.after.all fun e => !Region.binds .any e || listed.getD e.on false
theorem closedB_spec {listed : Array Bool} (h : Region.closedB ops listed = true) : closedL ops listed := by
  intro j oj hj hl e he hb
  simp only [Region.closedB, List.all_eq_true, List.mem_range] at h
  have := h j (Array.getElem?_eq_some_iff.1 hj).1
  simp only [hj, hl, Bool.not_true, Bool.false_or, Array.all_eq_true_iff_forall_mem, Bool.or_eq_true] at this
  exact (this e he).resolve_left (by simp [hb])
theorem waits_listed {listed : Array Bool} (hc : closedL ops listed) : ∀ (k f j : Nat) (o : Oper), ops[f]? = some o → (∀ e ∈ o.after, Region.binds .any e = true → listed.getD e.on false = true) → Region.waitsB ops k f j = true → listed.getD j false = true
  | 0, _, _, _, _, _, h => by simp [Region.waitsB] at h
  | k + 1, f, j, o, ho, hd, h => by
    simp only [Region.waitsB, ho] at h
    obtain ⟨e, he, hb⟩ := Array.any_eq_true'.1 h
    simp only [Bool.and_eq_true, Bool.or_eq_true, beq_iff_eq] at hb
    rcases hb.2 with h1 | h1
    · rw [← h1]; exact hd e he hb.1
    · cases hoe : ops[e.on]? with
      | none => cases k <;> simp [Region.waitsB, hoe] at h1
      | some oe => exact waits_listed hc k e.on j oe hoe (hc e.on oe hoe (hd e he hb.1)) h1
theorem closedL.set {listed : Array Bool} (hc : closedL ops listed) {i : Nat} (hi : i ∈ Region.ready .any ops listed) : closedL ops (listed.setIfInBounds i true) := by
  intro j oj hj hl e he hb
  obtain ⟨hun, oi, hoi, hall⟩ := mem_ready.1 hi
  by_cases hij : i = j
  · subst hij
    rw [hoi] at hj; injection hj with hj; subst hj
    exact getD_set_true (hall e he hb)
  · rw [getD_set_ne false hij] at hl
    exact getD_set_true (hc j oj hj hl e he hb)

theorem anyS_first {i : Nat} {oi : Oper} {v : Value} (hd : Region.noDefer ops = true) (hf : Region.lastB ops f = true) (hi : ops[i]? = some oi) (hsel : ∀ (j : Nat) (o : Oper) cs b, ops[j]? = some o → o.op ≠ .select cs b)
    (hQ : ∀ c a w, Q (.panic c) (a.put oi.dst v) w → Q (.panic c) a w) :
    ∀ (k : Nat) (listed : Array Bool) (a : Act) (w : World), closedL ops listed →
      (∀ j oj, ops[j]? = some oj → j ≠ i → listed.getD j true = false → (∀ e ∈ oj.after, Region.binds .any e = true → e.on ≠ i) → oi.apart ops oj = true) →
      i ∈ Region.ready .any ops listed → S w → (∀ W, S W → YieldsAt P ops W oi v a) →
      anyS r n P ops Q S f k (listed.setIfInBounds i true) (a.put oi.dst v) w → anyS r n P ops Q S f (k + 1) listed a w := by
  intro k
  induction k with
  | zero =>
    intro listed a w _ _ hr hS hy H
    refine ⟨fun h => (by rw [h] at hr; cases hr), fun j hj => ?_⟩
    by_cases hji : j = i
    · subst hji; exact opIn_of_yields hd hi (hy w hS) ⟨.inr hS, H⟩
    · have := ready_mono hj hji
      rw [H.1] at this
      cases this
  | succ k ih =>
    intro listed a w hcl hfree hr hS hy H
    refine ⟨fun h => (by rw [h] at hr; cases hr), fun j hj => ?_⟩
    by_cases hji : j = i
    · subst hji; exact opIn_of_yields hd hi (hy w hS) ⟨.inr hS, H⟩
    · have h1 := H.2 j (ready_mono hj hji)
      obtain ⟨hjun, oj, hoj, hall⟩ := mem_ready.1 hj
      have hnot : ∀ e ∈ oj.after, Region.binds .any e = true → e.on ≠ i := fun e he hb heq => by
        have h1 := hall e he hb
        have h0 := (mem_ready.1 hr).1
        rw [heq] at h1
        rcases Nat.lt_or_ge i listed.size with h' | h'
        · simp [h'] at h0 h1; rw [h0] at h1; cases h1
        · simp [Array.getElem?_eq_none h'] at h1
      have hjf : j ≠ f := by
        rintro rfl
        unfold Region.lastB at hf
        rw [hoj] at hf
        simp only [List.all_eq_true, List.mem_range] at hf
        have := hf i (Array.getElem?_eq_some_iff.1 hi).1
        simp only [Bool.or_eq_true, beq_iff_eq, Ne.symm hji, false_or] at this
        have h1 := waits_listed hcl 3 j i oj hoj hall this
        have h0 := (mem_ready.1 hr).1
        rcases Nat.lt_or_ge i listed.size with h' | h'
        · simp [h'] at h0 h1; rw [h0] at h1; cases h1
        · simp [Array.getElem?_eq_none h'] at h1
      have h2 := opIn_put (S := S) hd hoj (hfree j oj hoj hji hjun hnot) (fun cs b => hsel i oi cs b hi) (fun cs b => hsel j oj cs b hoj) hQ hy h1
      have hfree' : ∀ m om, ops[m]? = some om → m ≠ i → (listed.setIfInBounds j true).getD m true = false →
          (∀ e ∈ om.after, Region.binds .any e = true → e.on ≠ i) → oi.apart ops om = true := fun m om hm hmi hun hno => by
        refine hfree m om hm hmi ?_ hno
        by_cases hjm : j = m
        · subst hjm; exact hjun
        · rw [getD_set_ne true hjm] at hun; exact hun
      refine wpOpIn_mono (fun a' w' h3 => ?_) h2
      obtain ⟨h4, h5, h6⟩ := h3
      have hS' := h5.resolve_left hjf
      refine ⟨.inr hS', ih (listed.setIfInBounds j true) a' w' (hcl.set hj) hfree' (ready_mono hr (Ne.symm hji)) hS' h4 ?_⟩
      rw [Array.setIfInBounds_comm _ _ hji]
      exact h6

/-- A quiet operation, taken next. -/
theorem anyS_quiet {k : Nat} {listed : Array Bool} {a a2 : Act} {w : World} (i : Nat) {oi : Oper} {d : Nat} (hi : ops[i]? = some oi) (hdst : oi.dst = some d) (hsz : decide (d < a.tmps.size) = true)
    (hd : Region.noDefer ops = true) (hs : Region.noSelect ops = true) (hl : Region.lastB ops f = true) (hf : Region.free .any ops listed i = true) (hr : (Region.ready .any ops listed).contains i = true) (hcl : Region.closedB ops listed = true)
    (hQ : ∀ c a v w, Q (.panic c) (Act.put a oi.dst v) w → Q (.panic c) a w) (hS : S w)
    (h : ∀ W, S W → ∀ K : Act → Prop, K a2 → if Region.wanted oi (yielded ops a.tmps) then oi.still P a W K else K (a.put oi.dst undef))
    (hk : anyS r n P ops Q S f k (listed.setIfInBounds i true) a2 w) : anyS r n P ops Q S f (k + 1) listed a w := by
  have hst : ∀ W, S W → ∃ v, YieldsAt P ops W oi v a ∧ a.put oi.dst v = a2 := fun W hW =>
    yieldsAt_of_stOp (i := i) (K := fun a' => a' = a2) hi (by
      have := h W hW (fun a' => a' = a2) rfl
      unfold stOp; simp only [hi]; exact this)
  obtain ⟨v, hv, h2⟩ := hst w hS
  have hsz := of_decide_eq_true hsz
  have hall : ∀ W, S W → YieldsAt P ops W oi v a := fun W hW => by
    obtain ⟨u, hu, h3⟩ := hst W hW
    have : u = v := by
      rw [← h2, hdst] at h3
      have := congrArg (fun x : Act => x.tmps[d]?) h3
      simpa [Act.put, hsz] using this
    rw [← this]; exact hu
  rw [← h2] at hk
  exact anyS_first hd hl hi (Region.noSelect_spec hs) (fun c a w => hQ c a v w) k listed a w (closedB_spec hcl) (Region.free_spec hi hf) (by simpa using hr) hS hall hk

/-- The post of one operation. -/
def exitK (K : Act → World → Prop) (Q : Exit → Act → World → Prop) : Exit → Act → World → Prop
  | .normal, a, w => K a w
  | e, a, w => Q e a w
theorem opIn_of_list {i : Nat} {o : Oper} {K : Act → World → Prop} {a : Act} {w : World} (hi : ops[i]? = some o) (h : wpListIn (WF r) n P ops (exitK K Q) [o] a w) : wpOpIn (WF r) n P ops Q i K a w := by
  unfold wpOpIn
  simp only [hi]
  unfold wpListIn at h
  have hL : ∀ a w, wpListIn (WF r) n P ops (exitK K Q) [] a w → K a w := fun a w h => h
  split
  · rename_i hw
    simp only [hw, if_true] at h
    unfold Oper.wpIn at *
    refine ⟨h.1, ?_⟩
    have h := h.2
    generalize (Oper.semAt _ _ _).run P w = R at *
    cases R with
    | ok x w' =>
      cases x <;> simp only [Oper.uponIn] at h ⊢
      case value u => exact hL _ _ h
      case skip => exact hL _ _ h
      case defer d => exact hL _ _ h
      case enter g args =>
        refine ⟨h.1, CallsIn.mono h.2 fun e w'' he => ?_⟩
        cases e with
        | returned u => exact hL _ _ he
        | panicked c => exact he
        | outgrown => exact he
      case row row args => exact ⟨h.1, RowsIn.mono h.2 fun u w'' he => hL _ _ he⟩
      case round l fn tmps assign body =>
        refine ⟨h.1, RoundIn.mono h.2 fun e w'' he => ?_⟩
        cases e with
        | returned u => exact hL _ _ he
        | panicked c => exact he
        | outgrown => exact he
    | halt x w' =>
      cases x <;> simp only [Oper.uponIn] at h ⊢
      case panic u => exact h
  · rename_i hw
    simp only [hw] at h
    exact ⟨h.1, hL _ _ h.2⟩

/-- The one operation that can come next. -/
theorem anyS_only {k : Nat} {listed : Array Bool} {a : Act} {w : World} (c : Nat) {o : Oper} (hi : ops[c]? = some o) (hr : Region.ready .any ops listed = [c])
    (h : wpListIn (WF r) n P ops (exitK (fun a' w' => (c = f ∨ S w') ∧ anyS r n P ops Q S f k (listed.setIfInBounds c true) a' w') Q) [o] a w) : anyS r n P ops Q S f (k + 1) listed a w :=
  ⟨fun h0 => (by rw [hr] at h0; cases h0), fun i hi' => by
    rw [hr] at hi'
    obtain rfl : i = c := by simpa using hi'
    exact opIn_of_list hi h⟩
theorem anyS_done {listed : Array Bool} {a : Act} {w : World} (hr : Region.ready .any ops listed = []) (h : Q .normal a w) : ∀ k, anyS r n P ops Q S f k listed a w
  | 0 => ⟨hr, h⟩
  | _ + 1 => ⟨fun _ => h, by rw [hr]; simp⟩

theorem region_S {id : Nat} {a : Act} {w : World} (S : World → Prop) (f : Nat) (hm : P.follows .mixedOrders = true) (h : anyS r n P ops Q S f ops.size (Array.replicate ops.size false) a w.drew) : (Code.region id ops true).wpIn (WF r) n P Q a w :=
  wpIn_region_any hm (anyS_sound _ _ _ _ h)
theorem region_S_plain {id : Nat} {a : Act} {w : World} (S : World → Prop) (f : Nat) (hm : P.follows .mixedOrders = true) (h : anyS none n P ops Q S f ops.size (Array.replicate ops.size false) a w.drew) : (Code.region id ops true).wp P Q a w :=
  (wpIn_wide (n := n)).1 (region_S (r := none) S f hm h)
end
end Go.Proofs.YtlaepkmnbbgbcaaGreatDoor
