/- The reference's Check and Valid. (Written by wip/tools/genYK.py.) -/
import Derived.Test.YtlaepkmnbbgbcaaGreatDoorGS4
import Derived.Test.YtlaepkmnbbgbcaaGreatDoorGS5
import Derived.Test.YtlaepkmnbbgbcaaGreatDoorGS7
/- The reference's Check and Valid. (Written by wip/tools/genYK.py.) -/
namespace Go.Proofs.YtlaepkmnbbgbcaaGreatDoor
open Go.RowKit Go.Instr Go.Sort
set_option linter.unusedVariables false
set_option linter.unusedSimpArgs false
attribute [local go_sem] Oper.semAt_some

theorem insideB_wi (c : Co) (n : Int) : insideB c n = wiB n 0 (c.instrs.length - 1) := by
  unfold insideB wiB
  rw [Bool.eq_iff_iff]
  simp only [Bool.and_eq_true, decide_eq_true_eq]
  omega
theorem rdL_at {w : World} {ad : Addr} {n cp : Nat} {l : List (Int × Int)} (h : RdL encL w (.slice (some ad) n cp) l) {k : Nat} {v : Int × Int} (hv : l[k]? = some v) {A : Addr} (hA : ad.add (k * 2) = A) :
    w.cell? A = some (.int .i64 v.1) ∧ w.cell? ⟨A.block, A.off + 1, none⟩ = some (.int .i64 v.2) := by
  subst hA
  have g := fun j hj => h.at encL_len hv j hj
  exact ⟨by have := g 0 (by omega); rw [Addr.add_zero'] at this; exact this.trans rfl, (g 1 (by omega)).trans rfl⟩
theorem rd_some {α : Type} {enc : α → List Value} {w : World} {a : Option Addr} {n c : Nat} {l : List α} (h0 : a = none → l = []) (hn : l.length = n) {k : Nat} (hk : k < n) : ∃ ad, a = some ad := by
  cases a with
  | none => have := h0 rfl; rw [this] at hn; simp at hn; omega
  | some ad => exact ⟨ad, rfl⟩
set_option maxRecDepth 100000 in
set_option maxHeartbeats 16000000 in
theorem rCheck_any {w : World} {dv lv tv rv iv : Value} {c : Co} {xs : List DeV} (h : RdCo w dv lv tv rv iv c xs) (hb : Big c) (hI : ∀ x ∈ c.reals, I64 x.1) :
    Calls Tryz.prog 27 #[codeV dv lv tv rv iv] w fun e w' => ∃ E at_ : Int, e = .returned (.agg #[.int .i64 E, .int .i64 at_]) ∧ (E = 0 ↔ Good c) ∧ Ex w w' := by
  have HDe : Hid (∀ V, Ex w V → ∀ k, k < c.descs.length → Calls Tryz.prog 73 #[codeV dv lv tv rv iv, .int .i64 (k : Nat)] V fun e w' => e = .returned (.bool (descR c k)) ∧ Ex V w') := Lib.hid (fun V hV k hk => rdesc_any (h.ext hV) hb k hk)
  have HIn : Hid (∀ V, Ex w V → ∀ x : Ins, Calls Tryz.prog 77 #[codeV dv lv tv rv iv, .agg #[.int .i64 x.op, .int .i64 x.a, .int .i64 x.b]] V fun e w' => ∃ E : Int, e = .returned (.int .i64 E) ∧ (E = 0 ↔ insR c x = true) ∧ Ex V w') := Lib.hid (fun V hV x => instruction_any (h.ext hV) hb x)
  have hlen := h.len
  have hRd := h
  obtain ⟨da, dc, rfl, -⟩ := id h.ds
  obtain ⟨la, lc, rfl, -, hl0, -⟩ := id h.ls
  obtain ⟨ta, tc, rfl, -, ht0, -⟩ := id h.ts
  obtain ⟨ra, rc, rfl, -, hr0, -⟩ := id h.rs
  obtain ⟨ia, ic, rfl, -, hi0, -⟩ := id h.is
  have HPl : Hid (∀ V (x : Int), Calls Tryz.prog 74 #[codeV (.slice da xs.length dc) (.slice la c.labels.length lc) (.slice ta c.texts.length tc) (.slice ra c.reals.length rc) (.slice ia c.instrs.length ic), .int .i64 x] V fun e w' => e = .returned (.bool (insideB c x)) ∧ Ex V w') := Lib.hid (fun V x => by
    rw [insideB_wi]; exact place_any hb.i ⟨_, _, _, rfl⟩ ⟨_, _, _, rfl⟩ ⟨_, _, _, rfl⟩ ⟨_, _, _, rfl⟩ x)
  obtain ⟨b0, hb0⟩ : ∃ b0, w.heap.size = b0 := ⟨_, rfl⟩
  obtain ⟨W1, hW1⟩ : ∃ W1, w.alloc (.cells #[.slice da xs.length dc, .slice la c.labels.length lc, .slice ta c.texts.length tc, .slice ra c.reals.length rc, .slice ia c.instrs.length ic] 28) = W1 := ⟨_, rfl⟩
  have hX01 : Ex w W1 := by rw [← hW1]; exact (Keeps.refl _ w).alloc _
  have hB01 : Blk W1 b0 #[.slice da xs.length dc, .slice la c.labels.length lc, .slice ta c.texts.length tc, .slice ra c.reals.length rc, .slice ia c.instrs.length ic] 28 := by rw [← hW1, ← hb0]; exact Blk.new w _ _
  have hs1 : W1.heap.size = b0 + 1 := by rw [← hW1, World.size_alloc, hb0]
  obtain ⟨W2, hW2⟩ : ∃ W2, W1.alloc (.cells #[.int .i64 0, .int .i64 0] 58) = W2 := ⟨_, rfl⟩
  have hX12 : Ex W1 W2 := by rw [← hW2]; exact (Keeps.refl _ W1).alloc _
  have hB1 : Blk W2 (b0 + 1) #[.int .i64 0, .int .i64 0] 58 := by rw [← hW2, ← hs1]; exact Blk.new W1 _ _
  have hB0 := hX12.blk hB01 id
  have HF : ∀ V, Ex W2 V → Hid ((V.cell? ⟨b0, 0, none⟩ = some (.slice da xs.length dc) ∧ V.cell? ⟨b0, 1, none⟩ = some (.slice la c.labels.length lc) ∧ V.cell? ⟨b0, 2, none⟩ = some (.slice ta c.texts.length tc) ∧ V.cell? ⟨b0, 3, none⟩ = some (.slice ra c.reals.length rc) ∧ V.cell? ⟨b0, 4, none⟩ = some (.slice ia c.instrs.length ic)) ∧
      (V.cell? ⟨b0 + 1, 0, none⟩ = some (.int .i64 0) ∧ V.cell? ⟨b0 + 1, 1, none⟩ = some (.int .i64 0) ∧ V.frozen? ⟨b0 + 1, 0, none⟩ = false ∧ V.frozen? ⟨b0 + 1, 1, none⟩ = false)) := fun V hV =>
    ⟨⟨((hV.blk hB0 id).cell 0).trans rfl, ((hV.blk hB0 id).cell 1).trans rfl, ((hV.blk hB0 id).cell 2).trans rfl, ((hV.blk hB0 id).cell 3).trans rfl, ((hV.blk hB0 id).cell 4).trans rfl⟩, ((hV.blk hB1 id).cell 0).trans rfl, ((hV.blk hB1 id).cell 1).trans rfl, (hV.blk hB1 id).frozen _, (hV.blk hB1 id).frozen _⟩
  have HRet : Hid (∀ V, Ex W2 V → ∀ E at_ : Int, Blk ((V.setCell ⟨b0 + 1, 0, none⟩ (.int .i64 E)).setCell ⟨b0 + 1, 1, none⟩ (.int .i64 at_)) (b0 + 1) #[.int .i64 E, .int .i64 at_] 58 ∧ Ex w ((V.setCell ⟨b0 + 1, 0, none⟩ (.int .i64 E)).setCell ⟨b0 + 1, 1, none⟩ (.int .i64 at_))) := Lib.hid (fun V hV E at_ =>
    ⟨((hV.blk hB1 id).set 0 _).set 1 _, (((hX01.trans hX12).trans hV).setCell (.inr (by rw [hb0]; exact Nat.le_succ _)) _).setCell (.inr (by rw [hb0]; exact Nat.le_succ _)) _⟩)
  have HNo : Hid (∀ E : Int, ¬ E = 0 → ¬ FineR c → (E = 0 ↔ Good c)) := Lib.hid (fun E hE hF => ⟨fun he => absurd he hE, fun g => absurd ((fineR_iff c).2 g) hF⟩)
  have HL := Lib.hid (h.ls); have HT := Lib.hid (h.ts); have HR := Lib.hid (h.rs); have HIs := Lib.hid (h.is)
  have Hl0 := Lib.hid hl0; have Ht0 := Lib.hid ht0; have Hr0 := Lib.hid hr0; have Hi0 := Lib.hid hi0; have HI := Lib.hid hI; have HTs := Lib.hid hb.s
  have HX02 : Hid (Ex w W2) := Lib.hid (hX01.trans hX12)
  have HW1 := Lib.hid hW1; have HW2 := Lib.hid hW2; have Hb0 := Lib.hid hb0; have Hs1 := Lib.hid hs1; have Hlen := Lib.hid hlen
  have n0 : xs.length ≤ 1000000 := by have := hb.d; omega
  have n1 : c.labels.length ≤ 1000000 := hb.l
  have n2 : c.texts.length ≤ 1000000 := hb.t
  have n3 : c.reals.length ≤ 1000000 := hb.r
  have n4 : c.instrs.length ≤ 1000000 := hb.i
  clear hW1 hW2 hb0 hs1 hX01 hX12 hB0 hB01 hB1 h hb hRd hl0 ht0 hr0 hi0 hI hlen
  generalize hM : (fun (e : Ending) (w' : World) => ∃ E at_ : Int, e = .returned (.agg #[.int .i64 E, .int .i64 at_]) ∧ (E = 0 ↔ Good c) ∧ Ex w w') = M
  have HM := Lib.hid hM
  clear hM
  unfold codeV at HDe HIn HPl ⊢
  go_enter Tryz.func27, Tryz.ntmps27
  go_upto_region 1 with fail
  rw [HW1.out]
  try rw [Hb0.out]
  try rw [HW2.out]
  try rw [Hs1.out]
  obtain ⟨⟨x0, x1, x2, x3, x4⟩, ⟨r0, r1, f0, f1⟩⟩ := (HF W2 (Keeps.refl _ _)).out
  by_cases k1 : (c.instrs.length : Int) < 1
  · go_wp2_with fail
    refine bodyPost_ret (results_cell_row rfl _ _ (b0 + 1) 58 _ (0, 0) _ rfl (HRet.out _ (Keeps.refl _ _) 2 (-1)).1 Tryz.underlying58 rfl (by kernel_rfl)) rfl ?_
    rw [← HM.out]
    exact ⟨2, (-1), rfl, (HNo.out _ (by decide) (fun g => by have := g.i1; omega)), (HRet.out _ (Keeps.refl _ _) 2 (-1)).2⟩
  by_cases k2 : (xs.length : Int) < 1
  · go_wp2_with fail
    refine bodyPost_ret (results_cell_row rfl _ _ (b0 + 1) 58 _ (0, 0) _ rfl (HRet.out _ (Keeps.refl _ _) 2 (-1)).1 Tryz.underlying58 rfl (by kernel_rfl)) rfl ?_
    rw [← HM.out]
    exact ⟨2, (-1), rfl, (HNo.out _ (by decide) (fun g => by have := g.d1; have := Hlen.out; omega)), (HRet.out _ (Keeps.refl _ _) 2 (-1)).2⟩
  by_cases k3 : (c.instrs.length : Int) > 20000
  · go_wp2_with fail
    refine bodyPost_ret (results_cell_row rfl _ _ (b0 + 1) 58 _ (0, 0) _ rfl (HRet.out _ (Keeps.refl _ _) 2 (-1)).1 Tryz.underlying58 rfl (by kernel_rfl)) rfl ?_
    rw [← HM.out]
    exact ⟨2, (-1), rfl, (HNo.out _ (by decide) (fun g => by have := g.i2; omega)), (HRet.out _ (Keeps.refl _ _) 2 (-1)).2⟩
  by_cases k4 : (xs.length : Int) > 2000
  · go_wp2_with fail
    refine bodyPost_ret (results_cell_row rfl _ _ (b0 + 1) 58 _ (0, 0) _ rfl (HRet.out _ (Keeps.refl _ _) 2 (-1)).1 Tryz.underlying58 rfl (by kernel_rfl)) rfl ?_
    rw [← HM.out]
    exact ⟨2, (-1), rfl, (HNo.out _ (by decide) (fun g => by have := g.d2; have := Hlen.out; omega)), (HRet.out _ (Keeps.refl _ _) 2 (-1)).2⟩
  by_cases k5 : (c.labels.length : Int) > 2000
  · go_wp2_with fail
    refine bodyPost_ret (results_cell_row rfl _ _ (b0 + 1) 58 _ (0, 0) _ rfl (HRet.out _ (Keeps.refl _ _) 2 (-1)).1 Tryz.underlying58 rfl (by kernel_rfl)) rfl ?_
    rw [← HM.out]
    exact ⟨2, (-1), rfl, (HNo.out _ (by decide) (fun g => by have := g.l2; omega)), (HRet.out _ (Keeps.refl _ _) 2 (-1)).2⟩
  by_cases k6 : (c.texts.length : Int) > 2000
  · go_wp2_with fail
    refine bodyPost_ret (results_cell_row rfl _ _ (b0 + 1) 58 _ (0, 0) _ rfl (HRet.out _ (Keeps.refl _ _) 2 (-1)).1 Tryz.underlying58 rfl (by kernel_rfl)) rfl ?_
    rw [← HM.out]
    exact ⟨2, (-1), rfl, (HNo.out _ (by decide) (fun g => by have := g.t2; omega)), (HRet.out _ (Keeps.refl _ _) 2 (-1)).2⟩
  by_cases k7 : (c.reals.length : Int) > 2000
  · go_wp2_with fail
    refine bodyPost_ret (results_cell_row rfl _ _ (b0 + 1) 58 _ (0, 0) _ rfl (HRet.out _ (Keeps.refl _ _) 2 (-1)).1 Tryz.underlying58 rfl (by kernel_rfl)) rfl ?_
    rw [← HM.out]
    exact ⟨2, (-1), rfl, (HNo.out _ (by decide) (fun g => by have := g.r2; omega)), (HRet.out _ (Keeps.refl _ _) 2 (-1)).2⟩
  have HLim : Hid (1 ≤ c.instrs.length ∧ c.instrs.length ≤ 20000 ∧ 1 ≤ c.descs.length ∧ c.descs.length ≤ 2000 ∧ c.labels.length ≤ 2000 ∧ c.texts.length ≤ 2000 ∧ c.reals.length ≤ 2000) := Lib.hid (by have := Hlen.out; omega)
  go_upto_region 3 with fail
  go_wp2_with fail
  clear x0 x1 x2 x3 x4 r0 r1 f0 f1
  go_loopw [3] (fun s wr => ∃ k : Nat, k ≤ xs.length ∧ s = .int .i64 k ∧ Hid (Ex W2 wr) ∧ Hid (∀ j, j < k → descR c j = true)) (fun s wr => xs.length - (intOf s).toNat)
  case atStart => exact ⟨0, Nat.zero_le _, rfl, Lib.hid (Keeps.refl _ W2), Lib.hid (fun j hj => by omega)⟩
  case round =>
  obtain ⟨k, hk, rfl, HX, HA⟩ := hrel
  obtain ⟨⟨x0, x1, x2, x3, x4⟩, ⟨r0, r1, f0, f1⟩⟩ := (HF wr HX.out).out
  by_cases hlt : k < xs.length
  case pos =>
    have HC := Lib.hid (HDe.out wr (HX02.out.trans HX.out) k (by have := Hlen.out; omega))
    cases hr : descR c k with
    | false =>
      rw [hr] at HC
      have Hr := Lib.hid hr
      clear hr
      go_wp2_with fail
      refine HC.out.mono ?_
      rintro e w5 ⟨rfl, hx5⟩
      have HX5 := Lib.hid (HX.out.trans hx5)
      clear hx5 x0 x1 x2 x3 x4 r0 r1 f0 f1
      obtain ⟨⟨x0, x1, x2, x3, x4⟩, ⟨r0, r1, f0, f1⟩⟩ := (HF w5 HX5.out).out
      go_wp2_with fail
      refine bodyPost_ret (results_cell_row rfl _ _ (b0 + 1) 58 _ (0, 0) _ rfl (HRet.out _ HX5.out 3 k).1 Tryz.underlying58 rfl (by kernel_rfl)) rfl ?_
      rw [← HM.out]
      exact ⟨3, k, rfl, (HNo.out _ (by decide) (fun g => by have h1 := g.descs k (by have := Hlen.out; omega); rw [Hr.out] at h1; cases h1)), (HRet.out _ HX5.out 3 k).2⟩
    | true =>
      rw [hr] at HC
      have Hr := Lib.hid hr
      clear hr
      have hnew : Hid (∀ j, j < k + 1 → descR c j = true) := Lib.hid (fun j hj => by
        by_cases e : j = k
        · subst e; exact Hr.out
        · exact HA.out j (by omega))
      go_wp2_with fail
      refine HC.out.mono ?_
      rintro e w5 ⟨rfl, hx5⟩
      have HX5 := Lib.hid (HX.out.trans hx5)
      clear hx5
      go_wp2_with fail
      go_roundw
      case rel => exact ⟨k + 1, by omega, by go_num, HX5, hnew⟩
      case measure => simp [intOf]; omega
  have hkn : k = xs.length := by omega
  have HA3 : Hid (∀ j, j < xs.length → descR c j = true) := Lib.hid (by rw [← hkn]; exact HA.out)
  clear hkn
  have HX3 := HX
  go_wp2_with fail
  clear x0 x1 x2 x3 x4 r0 r1 f0 f1
  go_loopw [4] (fun s wr => ∃ k : Nat, k ≤ c.labels.length ∧ s = .int .i64 k ∧ Hid (Ex W2 wr) ∧ Hid (∀ j, j < k → ∀ v, c.labels[j]? = some v → insideB c v.1 = true ∧ insideB c v.2 = true)) (fun s wr => c.labels.length - (intOf s).toNat)
  case atStart => exact ⟨0, Nat.zero_le _, rfl, HX3, Lib.hid (fun j hj => by omega)⟩
  case round =>
  obtain ⟨k, hk, rfl, HX, HA⟩ := hrel
  obtain ⟨⟨x0, x1, x2, x3, x4⟩, ⟨r0, r1, f0, f1⟩⟩ := (HF wr HX.out).out
  by_cases hlt : k < c.labels.length
  case pos =>
    obtain ⟨lad, rfl⟩ := rd_some (enc := encL) (w := w) (c := lc) Hl0.out rfl hlt
    obtain ⟨v, hv⟩ : ∃ v, c.labels[k]? = some v := ⟨_, List.getElem?_eq_getElem hlt⟩
    obtain ⟨A, hA⟩ : ∃ A, lad.add (k * 2) = A := ⟨_, rfl⟩
    obtain ⟨z0, z1⟩ := rdL_at (HL.out.ext (HX02.out.trans HX.out)) hv hA
    obtain ⟨W4, hW4⟩ : ∃ W4, wr.drew = W4 := ⟨_, rfl⟩
    have hX4 : Ex wr W4 := by rw [← hW4]; exact (Keeps.refl _ _).drew
    have HX4 := Lib.hid (HX.out.trans hX4)
    have HSof : ∀ V, Ex wr V → V.cell? ⟨b0, 0, none⟩ = some (.slice da xs.length dc) ∧ V.cell? ⟨b0, 1, none⟩ = some (.slice (some lad) c.labels.length lc) ∧ V.cell? ⟨b0, 2, none⟩ = some (.slice ta c.texts.length tc) ∧ V.cell? ⟨b0, 3, none⟩ = some (.slice ra c.reals.length rc) ∧ V.cell? ⟨b0, 4, none⟩ = some (.slice ia c.instrs.length ic) ∧ V.cell? A = some (.int .i64 v.1) ∧ V.cell? ⟨A.block, A.off + 1, none⟩ = some (.int .i64 v.2) := fun V hV => ⟨ext_cell hV x0, ext_cell hV x1, ext_cell hV x2, ext_cell hV x3, ext_cell hV x4, ext_cell hV z0, ext_cell hV z1⟩
    have HS := Lib.hid (HSof W4 hX4)
    have Hv := Lib.hid hv
    have HC0 := Lib.hid (HPl.out W4 v.1)
    have HC1 := Lib.hid (fun V => HPl.out V v.2)
    obtain ⟨q0, hq0⟩ : ∃ q, insideB c v.1 = q := ⟨_, rfl⟩
    obtain ⟨q1, hq1⟩ : ∃ q, insideB c v.2 = q := ⟨_, rfl⟩
    rw [hq0] at HC0
    rw [hq1] at HC1
    have Hr0 := Lib.hid hq0; have Hr1 := Lib.hid hq1; have HW4 := Lib.hid hW4
    clear hv hq0 hq1 hW4
    go_upto_region 11 with fail
    clear x0 x1 x2 x3 x4 r0 r1 f0 f1 z0 z1
    cases q0 with
    | false =>
      refine region_U_plain (n := 9) (fun V => V.cell? ⟨b0, 0, none⟩ = some (.slice da xs.length dc) ∧ V.cell? ⟨b0, 1, none⟩ = some (.slice (some lad) c.labels.length lc) ∧ V.cell? ⟨b0, 2, none⟩ = some (.slice ta c.texts.length tc) ∧ V.cell? ⟨b0, 3, none⟩ = some (.slice ra c.reals.length rc) ∧ V.cell? ⟨b0, 4, none⟩ = some (.slice ia c.instrs.length ic) ∧ V.cell? A = some (.int .i64 v.1) ∧ V.cell? ⟨A.block, A.off + 1, none⟩ = some (.int .i64 v.2)) 17 (by kernel_rfl) ?_
      rw [HW4.out]
      refine anyU_quiet (a2 := ?a0) 0 rfl rfl rfl (by kernel_rfl) (by kernel_rfl) (by kernel_rfl) (by kernel_rfl) (by kernel_rfl) (by kernel_rfl) (fun _ _ _ _ h => h) HS.out ?h0 ?k0
      case h0 => intro W hW K hK; obtain ⟨q0, q1, q2, q3, q4, q5, q6⟩ := hW; go_simp; exact hK
      refine anyU_quiet (a2 := ?a1) 1 rfl rfl rfl (by kernel_rfl) (by kernel_rfl) (by kernel_rfl) (by kernel_rfl) (by kernel_rfl) (by kernel_rfl) (fun _ _ _ _ h => h) HS.out ?h1 ?k1
      case h1 => intro W hW K hK; obtain ⟨q0, q1, q2, q3, q4, q5, q6⟩ := hW; go_simp; exact hK
      refine anyU_quiet (a2 := ?a2) 2 rfl rfl rfl (by kernel_rfl) (by kernel_rfl) (by kernel_rfl) (by kernel_rfl) (by kernel_rfl) (by kernel_rfl) (fun _ _ _ _ h => h) HS.out ?h2 ?k2
      case h2 => intro W hW K hK; obtain ⟨q0, q1, q2, q3, q4, q5, q6⟩ := hW; go_simp; exact hK
      refine anyU_quiet (a2 := ?a3) 3 rfl rfl rfl (by kernel_rfl) (by kernel_rfl) (by kernel_rfl) (by kernel_rfl) (by kernel_rfl) (by kernel_rfl) (fun _ _ _ _ h => h) HS.out ?h3 ?k3
      case h3 => intro W hW K hK; obtain ⟨q0, q1, q2, q3, q4, q5, q6⟩ := hW; go_simp; exact hK
      refine anyU_quiet (a2 := ?a4) 4 rfl rfl rfl (by kernel_rfl) (by kernel_rfl) (by kernel_rfl) (by kernel_rfl) (by kernel_rfl) (by kernel_rfl) (fun _ _ _ _ h => h) HS.out ?h4 ?k4
      case h4 => intro W hW K hK; obtain ⟨q0, q1, q2, q3, q4, q5, q6⟩ := hW; go_simp; exact hK
      refine anyU_quiet (a2 := ?a5) 5 rfl rfl rfl (by kernel_rfl) (by kernel_rfl) (by kernel_rfl) (by kernel_rfl) (by kernel_rfl) (by kernel_rfl) (fun _ _ _ _ h => h) HS.out ?h5 ?k5
      case h5 => intro W hW K hK; obtain ⟨q0, q1, q2, q3, q4, q5, q6⟩ := hW; go_simp; exact hK
      refine anyU_quiet (a2 := ?a6) 6 rfl rfl rfl (by kernel_rfl) (by kernel_rfl) (by kernel_rfl) (by kernel_rfl) (by kernel_rfl) (by kernel_rfl) (fun _ _ _ _ h => h) HS.out ?h6 ?k6
      case h6 => intro W hW K hK; obtain ⟨q0, q1, q2, q3, q4, q5, q6⟩ := hW; go_simp; exact hK
      refine anyU_only 7 rfl (by kernel_rfl) ?_
      gi_wp2_with fail
      refine (callsIn_WF HC0.out).mono ?_
      rintro e w5 ⟨rfl, hx5⟩
      have HX5 := Lib.hid (HX4.out.trans hx5)
      have HS5 := Lib.hid (HSof w5 (hX4.trans hx5))
      clear hx5
      gi_wp2
      refine And.intro (.inr HS5.out) ?_
      refine anyU_quiet (a2 := ?au2_8) 8 rfl rfl rfl (by kernel_rfl) (by kernel_rfl) (by kernel_rfl) (by kernel_rfl) (by kernel_rfl) (by kernel_rfl) (fun _ _ _ _ h => h) HS5.out ?hu2_8 ?ku2_8
      case hu2_8 => intro W hW K hK; obtain ⟨q0, q1, q2, q3, q4, q5, q6⟩ := hW; go_simp; exact hK
      refine anyU_quiet (a2 := ?au2_9) 9 rfl rfl rfl (by kernel_rfl) (by kernel_rfl) (by kernel_rfl) (by kernel_rfl) (by kernel_rfl) (by kernel_rfl) (fun _ _ _ _ h => h) HS5.out ?hu2_9 ?ku2_9
      case hu2_9 => intro W hW K hK; obtain ⟨q0, q1, q2, q3, q4, q5, q6⟩ := hW; go_simp; exact hK
      refine anyU_quiet (a2 := ?au2_10) 10 rfl rfl rfl (by kernel_rfl) (by kernel_rfl) (by kernel_rfl) (by kernel_rfl) (by kernel_rfl) (by kernel_rfl) (fun _ _ _ _ h => h) HS5.out ?hu2_10 ?ku2_10
      case hu2_10 => intro W hW K hK; obtain ⟨q0, q1, q2, q3, q4, q5, q6⟩ := hW; go_simp; exact hK
      refine anyU_quiet (a2 := ?au2_11) 11 rfl rfl rfl (by kernel_rfl) (by kernel_rfl) (by kernel_rfl) (by kernel_rfl) (by kernel_rfl) (by kernel_rfl) (fun _ _ _ _ h => h) HS5.out ?hu2_11 ?ku2_11
      case hu2_11 => intro W hW K hK; obtain ⟨q0, q1, q2, q3, q4, q5, q6⟩ := hW; go_simp; exact hK
      refine anyU_quiet (a2 := ?au2_12) 12 rfl rfl rfl (by kernel_rfl) (by kernel_rfl) (by kernel_rfl) (by kernel_rfl) (by kernel_rfl) (by kernel_rfl) (fun _ _ _ _ h => h) HS5.out ?hu2_12 ?ku2_12
      case hu2_12 => intro W hW K hK; obtain ⟨q0, q1, q2, q3, q4, q5, q6⟩ := hW; go_simp; exact hK
      refine anyU_quiet (a2 := ?au2_13) 13 rfl rfl rfl (by kernel_rfl) (by kernel_rfl) (by kernel_rfl) (by kernel_rfl) (by kernel_rfl) (by kernel_rfl) (fun _ _ _ _ h => h) HS5.out ?hu2_13 ?ku2_13
      case hu2_13 => intro W hW K hK; obtain ⟨q0, q1, q2, q3, q4, q5, q6⟩ := hW; go_simp; exact hK
      refine anyU_quiet (a2 := ?au2_14) 14 rfl rfl rfl (by kernel_rfl) (by kernel_rfl) (by kernel_rfl) (by kernel_rfl) (by kernel_rfl) (by kernel_rfl) (fun _ _ _ _ h => h) HS5.out ?hu2_14 ?ku2_14
      case hu2_14 => intro W hW K hK; obtain ⟨q0, q1, q2, q3, q4, q5, q6⟩ := hW; go_simp; exact hK
      refine anyU_quiet (a2 := ?au2_15) 15 rfl rfl rfl (by kernel_rfl) (by kernel_rfl) (by kernel_rfl) (by kernel_rfl) (by kernel_rfl) (by kernel_rfl) (fun _ _ _ _ h => h) HS5.out ?hu2_15 ?ku2_15
      case hu2_15 => intro W hW K hK; obtain ⟨q0, q1, q2, q3, q4, q5, q6⟩ := hW; go_simp; exact hK
      refine anyU_quiet (a2 := ?au2_16) 16 rfl rfl rfl (by kernel_rfl) (by kernel_rfl) (by kernel_rfl) (by kernel_rfl) (by kernel_rfl) (by kernel_rfl) (fun _ _ _ _ h => h) HS5.out ?hu2_16 ?ku2_16
      case hu2_16 => intro W hW K hK; obtain ⟨q0, q1, q2, q3, q4, q5, q6⟩ := hW; go_simp; exact hK
      refine anyU_only 17 rfl (by kernel_rfl) ?_
      have HX6 := HX5
      gi_wp2
      refine And.intro (.inl (by kernel_rfl)) ?_
      refine anyU_only 18 rfl (by kernel_rfl) ?_
      gi_wp2
      refine And.intro (.inl (by kernel_rfl)) ?_
      refine anyU_only 19 rfl (by kernel_rfl) ?_
      gi_wp2
      refine And.intro (.inl (by kernel_rfl)) ?_
      refine anyU_done (by kernel_rfl) ?_ _
      clear HS HS5 HC0 HC1
      obtain ⟨⟨x0, x1, x2, x3, x4⟩, ⟨r0, r1, f0, f1⟩⟩ := (HF w5 HX6.out).out
      go_wp2_with fail
      refine bodyPost_ret (results_cell_row rfl _ _ (b0 + 1) 58 _ (0, 0) _ rfl (HRet.out _ HX6.out 3 k).1 Tryz.underlying58 rfl (by kernel_rfl)) rfl ?_
      rw [← HM.out]
      exact ⟨3, k, rfl, (HNo.out _ (by decide) (fun g => by have h1 := g.labels v (List.mem_of_getElem? Hv.out); have h2 := Hr0.out; rw [h1.1] at h2; cases h2)), (HRet.out _ HX6.out 3 k).2⟩
    | true =>
      cases q1 with
      | false =>
        refine region_U_plain (n := 9) (fun V => V.cell? ⟨b0, 0, none⟩ = some (.slice da xs.length dc) ∧ V.cell? ⟨b0, 1, none⟩ = some (.slice (some lad) c.labels.length lc) ∧ V.cell? ⟨b0, 2, none⟩ = some (.slice ta c.texts.length tc) ∧ V.cell? ⟨b0, 3, none⟩ = some (.slice ra c.reals.length rc) ∧ V.cell? ⟨b0, 4, none⟩ = some (.slice ia c.instrs.length ic) ∧ V.cell? A = some (.int .i64 v.1) ∧ V.cell? ⟨A.block, A.off + 1, none⟩ = some (.int .i64 v.2)) 17 (by kernel_rfl) ?_
        rw [HW4.out]
        refine anyU_quiet (a2 := ?au3_0) 0 rfl rfl rfl (by kernel_rfl) (by kernel_rfl) (by kernel_rfl) (by kernel_rfl) (by kernel_rfl) (by kernel_rfl) (fun _ _ _ _ h => h) HS.out ?hu3_0 ?ku3_0
        case hu3_0 => intro W hW K hK; obtain ⟨q0, q1, q2, q3, q4, q5, q6⟩ := hW; go_simp; exact hK
        refine anyU_quiet (a2 := ?au3_1) 1 rfl rfl rfl (by kernel_rfl) (by kernel_rfl) (by kernel_rfl) (by kernel_rfl) (by kernel_rfl) (by kernel_rfl) (fun _ _ _ _ h => h) HS.out ?hu3_1 ?ku3_1
        case hu3_1 => intro W hW K hK; obtain ⟨q0, q1, q2, q3, q4, q5, q6⟩ := hW; go_simp; exact hK
        refine anyU_quiet (a2 := ?au3_2) 2 rfl rfl rfl (by kernel_rfl) (by kernel_rfl) (by kernel_rfl) (by kernel_rfl) (by kernel_rfl) (by kernel_rfl) (fun _ _ _ _ h => h) HS.out ?hu3_2 ?ku3_2
        case hu3_2 => intro W hW K hK; obtain ⟨q0, q1, q2, q3, q4, q5, q6⟩ := hW; go_simp; exact hK
        refine anyU_quiet (a2 := ?au3_3) 3 rfl rfl rfl (by kernel_rfl) (by kernel_rfl) (by kernel_rfl) (by kernel_rfl) (by kernel_rfl) (by kernel_rfl) (fun _ _ _ _ h => h) HS.out ?hu3_3 ?ku3_3
        case hu3_3 => intro W hW K hK; obtain ⟨q0, q1, q2, q3, q4, q5, q6⟩ := hW; go_simp; exact hK
        refine anyU_quiet (a2 := ?au3_4) 4 rfl rfl rfl (by kernel_rfl) (by kernel_rfl) (by kernel_rfl) (by kernel_rfl) (by kernel_rfl) (by kernel_rfl) (fun _ _ _ _ h => h) HS.out ?hu3_4 ?ku3_4
        case hu3_4 => intro W hW K hK; obtain ⟨q0, q1, q2, q3, q4, q5, q6⟩ := hW; go_simp; exact hK
        refine anyU_quiet (a2 := ?au3_5) 5 rfl rfl rfl (by kernel_rfl) (by kernel_rfl) (by kernel_rfl) (by kernel_rfl) (by kernel_rfl) (by kernel_rfl) (fun _ _ _ _ h => h) HS.out ?hu3_5 ?ku3_5
        case hu3_5 => intro W hW K hK; obtain ⟨q0, q1, q2, q3, q4, q5, q6⟩ := hW; go_simp; exact hK
        refine anyU_quiet (a2 := ?au3_6) 6 rfl rfl rfl (by kernel_rfl) (by kernel_rfl) (by kernel_rfl) (by kernel_rfl) (by kernel_rfl) (by kernel_rfl) (fun _ _ _ _ h => h) HS.out ?hu3_6 ?ku3_6
        case hu3_6 => intro W hW K hK; obtain ⟨q0, q1, q2, q3, q4, q5, q6⟩ := hW; go_simp; exact hK
        refine anyU_only 7 rfl (by kernel_rfl) ?_
        gi_wp2_with fail
        refine (callsIn_WF HC0.out).mono ?_
        rintro e w5 ⟨rfl, hx5⟩
        have HX5 := Lib.hid (HX4.out.trans hx5)
        have HS5 := Lib.hid (HSof w5 (hX4.trans hx5))
        clear hx5
        gi_wp2
        refine And.intro (.inr HS5.out) ?_
        refine anyU_quiet (a2 := ?au4_8) 8 rfl rfl rfl (by kernel_rfl) (by kernel_rfl) (by kernel_rfl) (by kernel_rfl) (by kernel_rfl) (by kernel_rfl) (fun _ _ _ _ h => h) HS5.out ?hu4_8 ?ku4_8
        case hu4_8 => intro W hW K hK; obtain ⟨q0, q1, q2, q3, q4, q5, q6⟩ := hW; go_simp; exact hK
        refine anyU_quiet (a2 := ?au4_9) 9 rfl rfl rfl (by kernel_rfl) (by kernel_rfl) (by kernel_rfl) (by kernel_rfl) (by kernel_rfl) (by kernel_rfl) (fun _ _ _ _ h => h) HS5.out ?hu4_9 ?ku4_9
        case hu4_9 => intro W hW K hK; obtain ⟨q0, q1, q2, q3, q4, q5, q6⟩ := hW; go_simp; exact hK
        refine anyU_quiet (a2 := ?au4_10) 10 rfl rfl rfl (by kernel_rfl) (by kernel_rfl) (by kernel_rfl) (by kernel_rfl) (by kernel_rfl) (by kernel_rfl) (fun _ _ _ _ h => h) HS5.out ?hu4_10 ?ku4_10
        case hu4_10 => intro W hW K hK; obtain ⟨q0, q1, q2, q3, q4, q5, q6⟩ := hW; go_simp; exact hK
        refine anyU_quiet (a2 := ?au4_11) 11 rfl rfl rfl (by kernel_rfl) (by kernel_rfl) (by kernel_rfl) (by kernel_rfl) (by kernel_rfl) (by kernel_rfl) (fun _ _ _ _ h => h) HS5.out ?hu4_11 ?ku4_11
        case hu4_11 => intro W hW K hK; obtain ⟨q0, q1, q2, q3, q4, q5, q6⟩ := hW; go_simp; exact hK
        refine anyU_quiet (a2 := ?au4_12) 12 rfl rfl rfl (by kernel_rfl) (by kernel_rfl) (by kernel_rfl) (by kernel_rfl) (by kernel_rfl) (by kernel_rfl) (fun _ _ _ _ h => h) HS5.out ?hu4_12 ?ku4_12
        case hu4_12 => intro W hW K hK; obtain ⟨q0, q1, q2, q3, q4, q5, q6⟩ := hW; go_simp; exact hK
        refine anyU_quiet (a2 := ?au4_13) 13 rfl rfl rfl (by kernel_rfl) (by kernel_rfl) (by kernel_rfl) (by kernel_rfl) (by kernel_rfl) (by kernel_rfl) (fun _ _ _ _ h => h) HS5.out ?hu4_13 ?ku4_13
        case hu4_13 => intro W hW K hK; obtain ⟨q0, q1, q2, q3, q4, q5, q6⟩ := hW; go_simp; exact hK
        refine anyU_quiet (a2 := ?au4_14) 14 rfl rfl rfl (by kernel_rfl) (by kernel_rfl) (by kernel_rfl) (by kernel_rfl) (by kernel_rfl) (by kernel_rfl) (fun _ _ _ _ h => h) HS5.out ?hu4_14 ?ku4_14
        case hu4_14 => intro W hW K hK; obtain ⟨q0, q1, q2, q3, q4, q5, q6⟩ := hW; go_simp; exact hK
        refine anyU_quiet (a2 := ?au4_15) 15 rfl rfl rfl (by kernel_rfl) (by kernel_rfl) (by kernel_rfl) (by kernel_rfl) (by kernel_rfl) (by kernel_rfl) (fun _ _ _ _ h => h) HS5.out ?hu4_15 ?ku4_15
        case hu4_15 => intro W hW K hK; obtain ⟨q0, q1, q2, q3, q4, q5, q6⟩ := hW; go_simp; exact hK
        refine anyU_quiet (a2 := ?au4_16) 16 rfl rfl rfl (by kernel_rfl) (by kernel_rfl) (by kernel_rfl) (by kernel_rfl) (by kernel_rfl) (by kernel_rfl) (fun _ _ _ _ h => h) HS5.out ?hu4_16 ?ku4_16
        case hu4_16 => intro W hW K hK; obtain ⟨q0, q1, q2, q3, q4, q5, q6⟩ := hW; go_simp; exact hK
        refine anyU_only 17 rfl (by kernel_rfl) ?_
        gi_wp2_with fail
        refine (callsIn_WF (HC1.out w5)).mono ?_
        rintro e w6 ⟨rfl, hx6⟩
        have HX6 := Lib.hid (HX5.out.trans hx6)
        clear hx6
        gi_wp2
        refine And.intro (.inl (by kernel_rfl)) ?_
        refine anyU_only 18 rfl (by kernel_rfl) ?_
        gi_wp2
        refine And.intro (.inl (by kernel_rfl)) ?_
        refine anyU_only 19 rfl (by kernel_rfl) ?_
        gi_wp2
        refine And.intro (.inl (by kernel_rfl)) ?_
        refine anyU_done (by kernel_rfl) ?_ _
        clear HS HS5 HC0 HC1
        obtain ⟨⟨x0, x1, x2, x3, x4⟩, ⟨r0, r1, f0, f1⟩⟩ := (HF w6 HX6.out).out
        go_wp2_with fail
        refine bodyPost_ret (results_cell_row rfl _ _ (b0 + 1) 58 _ (0, 0) _ rfl (HRet.out _ HX6.out 3 k).1 Tryz.underlying58 rfl (by kernel_rfl)) rfl ?_
        rw [← HM.out]
        exact ⟨3, k, rfl, (HNo.out _ (by decide) (fun g => by have h1 := g.labels v (List.mem_of_getElem? Hv.out); have h2 := Hr1.out; rw [h1.2] at h2; cases h2)), (HRet.out _ HX6.out 3 k).2⟩
      | true =>
        have hnew : Hid (∀ j, j < k + 1 → ∀ v, c.labels[j]? = some v → insideB c v.1 = true ∧ insideB c v.2 = true) := Lib.hid (fun j hj => by
          by_cases e : j = k
          · subst e; intro u hu; rw [Hv.out] at hu; cases hu; exact ⟨Hr0.out, Hr1.out⟩
          · exact HA.out j (by omega))
        refine region_U_plain (n := 9) (fun V => V.cell? ⟨b0, 0, none⟩ = some (.slice da xs.length dc) ∧ V.cell? ⟨b0, 1, none⟩ = some (.slice (some lad) c.labels.length lc) ∧ V.cell? ⟨b0, 2, none⟩ = some (.slice ta c.texts.length tc) ∧ V.cell? ⟨b0, 3, none⟩ = some (.slice ra c.reals.length rc) ∧ V.cell? ⟨b0, 4, none⟩ = some (.slice ia c.instrs.length ic) ∧ V.cell? A = some (.int .i64 v.1) ∧ V.cell? ⟨A.block, A.off + 1, none⟩ = some (.int .i64 v.2)) 17 (by kernel_rfl) ?_
        rw [HW4.out]
        refine anyU_quiet (a2 := ?au5_0) 0 rfl rfl rfl (by kernel_rfl) (by kernel_rfl) (by kernel_rfl) (by kernel_rfl) (by kernel_rfl) (by kernel_rfl) (fun _ _ _ _ h => h) HS.out ?hu5_0 ?ku5_0
        case hu5_0 => intro W hW K hK; obtain ⟨q0, q1, q2, q3, q4, q5, q6⟩ := hW; go_simp; exact hK
        refine anyU_quiet (a2 := ?au5_1) 1 rfl rfl rfl (by kernel_rfl) (by kernel_rfl) (by kernel_rfl) (by kernel_rfl) (by kernel_rfl) (by kernel_rfl) (fun _ _ _ _ h => h) HS.out ?hu5_1 ?ku5_1
        case hu5_1 => intro W hW K hK; obtain ⟨q0, q1, q2, q3, q4, q5, q6⟩ := hW; go_simp; exact hK
        refine anyU_quiet (a2 := ?au5_2) 2 rfl rfl rfl (by kernel_rfl) (by kernel_rfl) (by kernel_rfl) (by kernel_rfl) (by kernel_rfl) (by kernel_rfl) (fun _ _ _ _ h => h) HS.out ?hu5_2 ?ku5_2
        case hu5_2 => intro W hW K hK; obtain ⟨q0, q1, q2, q3, q4, q5, q6⟩ := hW; go_simp; exact hK
        refine anyU_quiet (a2 := ?au5_3) 3 rfl rfl rfl (by kernel_rfl) (by kernel_rfl) (by kernel_rfl) (by kernel_rfl) (by kernel_rfl) (by kernel_rfl) (fun _ _ _ _ h => h) HS.out ?hu5_3 ?ku5_3
        case hu5_3 => intro W hW K hK; obtain ⟨q0, q1, q2, q3, q4, q5, q6⟩ := hW; go_simp; exact hK
        refine anyU_quiet (a2 := ?au5_4) 4 rfl rfl rfl (by kernel_rfl) (by kernel_rfl) (by kernel_rfl) (by kernel_rfl) (by kernel_rfl) (by kernel_rfl) (fun _ _ _ _ h => h) HS.out ?hu5_4 ?ku5_4
        case hu5_4 => intro W hW K hK; obtain ⟨q0, q1, q2, q3, q4, q5, q6⟩ := hW; go_simp; exact hK
        refine anyU_quiet (a2 := ?au5_5) 5 rfl rfl rfl (by kernel_rfl) (by kernel_rfl) (by kernel_rfl) (by kernel_rfl) (by kernel_rfl) (by kernel_rfl) (fun _ _ _ _ h => h) HS.out ?hu5_5 ?ku5_5
        case hu5_5 => intro W hW K hK; obtain ⟨q0, q1, q2, q3, q4, q5, q6⟩ := hW; go_simp; exact hK
        refine anyU_quiet (a2 := ?au5_6) 6 rfl rfl rfl (by kernel_rfl) (by kernel_rfl) (by kernel_rfl) (by kernel_rfl) (by kernel_rfl) (by kernel_rfl) (fun _ _ _ _ h => h) HS.out ?hu5_6 ?ku5_6
        case hu5_6 => intro W hW K hK; obtain ⟨q0, q1, q2, q3, q4, q5, q6⟩ := hW; go_simp; exact hK
        refine anyU_only 7 rfl (by kernel_rfl) ?_
        gi_wp2_with fail
        refine (callsIn_WF HC0.out).mono ?_
        rintro e w5 ⟨rfl, hx5⟩
        have HX5 := Lib.hid (HX4.out.trans hx5)
        have HS5 := Lib.hid (HSof w5 (hX4.trans hx5))
        clear hx5
        gi_wp2
        refine And.intro (.inr HS5.out) ?_
        refine anyU_quiet (a2 := ?au6_8) 8 rfl rfl rfl (by kernel_rfl) (by kernel_rfl) (by kernel_rfl) (by kernel_rfl) (by kernel_rfl) (by kernel_rfl) (fun _ _ _ _ h => h) HS5.out ?hu6_8 ?ku6_8
        case hu6_8 => intro W hW K hK; obtain ⟨q0, q1, q2, q3, q4, q5, q6⟩ := hW; go_simp; exact hK
        refine anyU_quiet (a2 := ?au6_9) 9 rfl rfl rfl (by kernel_rfl) (by kernel_rfl) (by kernel_rfl) (by kernel_rfl) (by kernel_rfl) (by kernel_rfl) (fun _ _ _ _ h => h) HS5.out ?hu6_9 ?ku6_9
        case hu6_9 => intro W hW K hK; obtain ⟨q0, q1, q2, q3, q4, q5, q6⟩ := hW; go_simp; exact hK
        refine anyU_quiet (a2 := ?au6_10) 10 rfl rfl rfl (by kernel_rfl) (by kernel_rfl) (by kernel_rfl) (by kernel_rfl) (by kernel_rfl) (by kernel_rfl) (fun _ _ _ _ h => h) HS5.out ?hu6_10 ?ku6_10
        case hu6_10 => intro W hW K hK; obtain ⟨q0, q1, q2, q3, q4, q5, q6⟩ := hW; go_simp; exact hK
        refine anyU_quiet (a2 := ?au6_11) 11 rfl rfl rfl (by kernel_rfl) (by kernel_rfl) (by kernel_rfl) (by kernel_rfl) (by kernel_rfl) (by kernel_rfl) (fun _ _ _ _ h => h) HS5.out ?hu6_11 ?ku6_11
        case hu6_11 => intro W hW K hK; obtain ⟨q0, q1, q2, q3, q4, q5, q6⟩ := hW; go_simp; exact hK
        refine anyU_quiet (a2 := ?au6_12) 12 rfl rfl rfl (by kernel_rfl) (by kernel_rfl) (by kernel_rfl) (by kernel_rfl) (by kernel_rfl) (by kernel_rfl) (fun _ _ _ _ h => h) HS5.out ?hu6_12 ?ku6_12
        case hu6_12 => intro W hW K hK; obtain ⟨q0, q1, q2, q3, q4, q5, q6⟩ := hW; go_simp; exact hK
        refine anyU_quiet (a2 := ?au6_13) 13 rfl rfl rfl (by kernel_rfl) (by kernel_rfl) (by kernel_rfl) (by kernel_rfl) (by kernel_rfl) (by kernel_rfl) (fun _ _ _ _ h => h) HS5.out ?hu6_13 ?ku6_13
        case hu6_13 => intro W hW K hK; obtain ⟨q0, q1, q2, q3, q4, q5, q6⟩ := hW; go_simp; exact hK
        refine anyU_quiet (a2 := ?au6_14) 14 rfl rfl rfl (by kernel_rfl) (by kernel_rfl) (by kernel_rfl) (by kernel_rfl) (by kernel_rfl) (by kernel_rfl) (fun _ _ _ _ h => h) HS5.out ?hu6_14 ?ku6_14
        case hu6_14 => intro W hW K hK; obtain ⟨q0, q1, q2, q3, q4, q5, q6⟩ := hW; go_simp; exact hK
        refine anyU_quiet (a2 := ?au6_15) 15 rfl rfl rfl (by kernel_rfl) (by kernel_rfl) (by kernel_rfl) (by kernel_rfl) (by kernel_rfl) (by kernel_rfl) (fun _ _ _ _ h => h) HS5.out ?hu6_15 ?ku6_15
        case hu6_15 => intro W hW K hK; obtain ⟨q0, q1, q2, q3, q4, q5, q6⟩ := hW; go_simp; exact hK
        refine anyU_quiet (a2 := ?au6_16) 16 rfl rfl rfl (by kernel_rfl) (by kernel_rfl) (by kernel_rfl) (by kernel_rfl) (by kernel_rfl) (by kernel_rfl) (fun _ _ _ _ h => h) HS5.out ?hu6_16 ?ku6_16
        case hu6_16 => intro W hW K hK; obtain ⟨q0, q1, q2, q3, q4, q5, q6⟩ := hW; go_simp; exact hK
        refine anyU_only 17 rfl (by kernel_rfl) ?_
        gi_wp2_with fail
        refine (callsIn_WF (HC1.out w5)).mono ?_
        rintro e w6 ⟨rfl, hx6⟩
        have HX6 := Lib.hid (HX5.out.trans hx6)
        clear hx6
        gi_wp2
        refine And.intro (.inl (by kernel_rfl)) ?_
        refine anyU_only 18 rfl (by kernel_rfl) ?_
        gi_wp2
        refine And.intro (.inl (by kernel_rfl)) ?_
        refine anyU_only 19 rfl (by kernel_rfl) ?_
        gi_wp2
        refine And.intro (.inl (by kernel_rfl)) ?_
        refine anyU_done (by kernel_rfl) ?_ _
        clear HS HS5 HC0 HC1
        go_wp2_with fail
        go_roundw
        case rel => exact ⟨k + 1, by omega, by go_num, HX6, hnew⟩
        case measure => simp [intOf]; omega
  have hkn : k = c.labels.length := by omega
  have HA4 : Hid (∀ j, j < c.labels.length → ∀ v, c.labels[j]? = some v → insideB c v.1 = true ∧ insideB c v.2 = true) := Lib.hid (by rw [← hkn]; exact HA.out)
  clear hkn
  have HX4 := HX
  go_wp2_with fail
  clear x0 x1 x2 x3 x4 r0 r1 f0 f1
  go_loopw [5] (fun s wr => ∃ k : Nat, k ≤ c.texts.length ∧ s = .int .i64 k ∧ Hid (Ex W2 wr) ∧ Hid (∀ j, j < k → plainB (c.texts.getD j ⟨#[]⟩) = true)) (fun s wr => c.texts.length - (intOf s).toNat)
  case atStart => exact ⟨0, Nat.zero_le _, rfl, HX4, Lib.hid (fun j hj => by omega)⟩
  case round =>
  obtain ⟨k, hk, rfl, HX, HA⟩ := hrel
  obtain ⟨⟨x0, x1, x2, x3, x4⟩, ⟨r0, r1, f0, f1⟩⟩ := (HF wr HX.out).out
  by_cases hlt : k < c.texts.length
  case pos =>
    obtain ⟨tad, rfl⟩ := rd_some (enc := encS) (w := w) (c := tc) Ht0.out rfl hlt
    have z := (HT.out.ext (HX02.out.trans HX.out)).str_at hlt
    have hmem : c.texts.getD k ⟨#[]⟩ ∈ c.texts := by rw [List.getD_eq_getElem?_getD, List.getElem?_eq_getElem hlt]; exact List.getElem_mem hlt
    have HC := Lib.hid (printed_any (w := wr) (c.texts.getD k ⟨#[]⟩) (HTs.out _ hmem))
    have Hmem := Lib.hid hmem
    clear hmem
    obtain ⟨S, hS⟩ : ∃ S, c.texts.getD k ⟨#[]⟩ = S := ⟨_, rfl⟩
    rw [hS] at z HC Hmem
    have HS := Lib.hid hS
    clear hS
    cases hr : plainB S with
    | false =>
      rw [hr] at HC
      have Hr := Lib.hid hr
      clear hr
      go_wp2_with fail
      refine HC.out.mono ?_
      rintro e w5 ⟨rfl, hx5⟩
      have HX5 := Lib.hid (HX.out.trans hx5)
      clear hx5 x0 x1 x2 x3 x4 r0 r1 f0 f1 z
      obtain ⟨⟨x0, x1, x2, x3, x4⟩, ⟨r0, r1, f0, f1⟩⟩ := (HF w5 HX5.out).out
      go_wp2_with fail
      refine bodyPost_ret (results_cell_row rfl _ _ (b0 + 1) 58 _ (0, 0) _ rfl (HRet.out _ HX5.out 3 k).1 Tryz.underlying58 rfl (by kernel_rfl)) rfl ?_
      rw [← HM.out]
      exact ⟨3, k, rfl, (HNo.out _ (by decide) (fun g => by have h1 := g.texts S Hmem.out; rw [Hr.out] at h1; cases h1)), (HRet.out _ HX5.out 3 k).2⟩
    | true =>
      rw [hr] at HC
      have Hr := Lib.hid hr
      clear hr
      have hnew : Hid (∀ j, j < k + 1 → plainB (c.texts.getD j ⟨#[]⟩) = true) := Lib.hid (fun j hj => by
        by_cases e : j = k
        · subst e; rw [HS.out]; exact Hr.out
        · exact HA.out j (by omega))
      go_wp2_with fail
      refine HC.out.mono ?_
      rintro e w5 ⟨rfl, hx5⟩
      have HX5 := Lib.hid (HX.out.trans hx5)
      clear hx5
      go_wp2_with fail
      go_roundw
      case rel => exact ⟨k + 1, by omega, by go_num, HX5, hnew⟩
      case measure => simp [intOf]; omega
  have hkn : k = c.texts.length := by omega
  have HA5 : Hid (∀ j, j < c.texts.length → plainB (c.texts.getD j ⟨#[]⟩) = true) := Lib.hid (by rw [← hkn]; exact HA.out)
  clear hkn
  have HX5 := HX
  go_wp2_with fail
  clear x0 x1 x2 x3 x4 r0 r1 f0 f1
  go_loopw [6] (fun s wr => ∃ k : Nat, k ≤ c.reals.length ∧ s = .int .i64 k ∧ Hid (Ex W2 wr) ∧ Hid (∀ j, j < k → ∀ v, c.reals[j]? = some v → (rvB v && decide (0 ≤ v.1)) = true)) (fun s wr => c.reals.length - (intOf s).toNat)
  case atStart => exact ⟨0, Nat.zero_le _, rfl, HX5, Lib.hid (fun j hj => by omega)⟩
  case round =>
  obtain ⟨k, hk, rfl, HX, HA⟩ := hrel
  obtain ⟨⟨x0, x1, x2, x3, x4⟩, ⟨r0, r1, f0, f1⟩⟩ := (HF wr HX.out).out
  by_cases hlt : k < c.reals.length
  case pos =>
    obtain ⟨rad, rfl⟩ := rd_some (enc := encL) (w := w) (c := rc) Hr0.out rfl hlt
    obtain ⟨v, hv⟩ : ∃ v, c.reals[k]? = some v := ⟨_, List.getElem?_eq_getElem hlt⟩
    obtain ⟨A, hA⟩ : ∃ A, rad.add (k * 2) = A := ⟨_, rfl⟩
    obtain ⟨z0, z1⟩ := rdL_at (HR.out.ext (HX02.out.trans HX.out)) hv hA
    have HC := Lib.hid (rreal_any (w := wr) v.1 v.2 (HI.out v (List.mem_of_getElem? hv)))
    have HRz := Lib.hid (fun (V : World) hV => (rdL_at (HR.out.ext ((HX02.out.trans HX.out).trans hV : Ex w V)) hv hA).1)
    have Hv := Lib.hid hv
    clear hv
    cases hr : rvB v with
    | false =>
      rw [show rvB (v.1, v.2) = rvB v from rfl, hr] at HC
      have Hr := Lib.hid hr
      clear hr
      go_wp2_with fail
      refine HC.out.mono ?_
      rintro e w5 ⟨rfl, hx5⟩
      have HX5 := Lib.hid (HX.out.trans hx5)
      clear hx5 x0 x1 x2 x3 x4 r0 r1 f0 f1 z0 z1
      obtain ⟨⟨x0, x1, x2, x3, x4⟩, ⟨r0, r1, f0, f1⟩⟩ := (HF w5 HX5.out).out
      go_wp2_with fail
      refine bodyPost_ret (results_cell_row rfl _ _ (b0 + 1) 58 _ (0, 0) _ rfl (HRet.out _ HX5.out 3 k).1 Tryz.underlying58 rfl (by kernel_rfl)) rfl ?_
      rw [← HM.out]
      exact ⟨3, k, rfl, (HNo.out _ (by decide) (fun g => by have h1 := g.reals v (List.mem_of_getElem? Hv.out); rw [Hr.out] at h1; cases h1)), (HRet.out _ HX5.out 3 k).2⟩
    | true =>
      rw [show rvB (v.1, v.2) = rvB v from rfl, hr] at HC
      have Hr := Lib.hid hr
      clear hr
      go_wp2_with fail
      refine HC.out.mono ?_
      rintro e w5 ⟨rfl, hx5⟩
      have HX5 := Lib.hid (HX.out.trans hx5)
      have y0 := HRz.out w5 hx5
      clear hx5 x0 x1 x2 x3 x4 r0 r1 f0 f1 z0 z1
      obtain ⟨⟨x0, x1, x2, x3, x4⟩, ⟨r0, r1, f0, f1⟩⟩ := (HF w5 HX5.out).out
      by_cases hn : v.1 < 0
      · go_wp2_with fail
        refine bodyPost_ret (results_cell_row rfl _ _ (b0 + 1) 58 _ (0, 0) _ rfl (HRet.out _ HX5.out 3 k).1 Tryz.underlying58 rfl (by kernel_rfl)) rfl ?_
        rw [← HM.out]
        exact ⟨3, k, rfl, (HNo.out _ (by decide) (fun g => by have h1 := g.reals v (List.mem_of_getElem? Hv.out); rw [decide_eq_false (by omega : ¬ 0 ≤ v.1), Bool.and_false] at h1; cases h1)), (HRet.out _ HX5.out 3 k).2⟩
      have hnew : Hid (∀ j, j < k + 1 → ∀ v, c.reals[j]? = some v → (rvB v && decide (0 ≤ v.1)) = true) := Lib.hid (fun j hj => by
        by_cases e : j = k
        · subst e; intro u hu; rw [Hv.out] at hu; cases hu; rw [Hr.out, decide_eq_true (by omega : 0 ≤ v.1)]; rfl
        · exact HA.out j (by omega))
      go_wp2_with fail
      go_roundw
      case rel => exact ⟨k + 1, by omega, by go_num, HX5, hnew⟩
      case measure => simp [intOf]; omega
  have hkn : k = c.reals.length := by omega
  have HA6 : Hid (∀ j, j < c.reals.length → ∀ v, c.reals[j]? = some v → (rvB v && decide (0 ≤ v.1)) = true) := Lib.hid (by rw [← hkn]; exact HA.out)
  clear hkn
  have HX6 := HX
  go_wp2_with fail
  clear x0 x1 x2 x3 x4 r0 r1 f0 f1
  go_loopw [7] (fun s wr => ∃ k : Nat, k ≤ c.instrs.length ∧ s = .int .i64 k ∧ Hid (Ex W2 wr) ∧ Hid (∀ j, j < k → ∀ v, c.instrs[j]? = some v → insR c v = true)) (fun s wr => c.instrs.length - (intOf s).toNat)
  case atStart => exact ⟨0, Nat.zero_le _, rfl, HX6, Lib.hid (fun j hj => by omega)⟩
  case round =>
  obtain ⟨k, hk, rfl, HX, HA⟩ := hrel
  obtain ⟨⟨x0, x1, x2, x3, x4⟩, ⟨r0, r1, f0, f1⟩⟩ := (HF wr HX.out).out
  by_cases hlt : k < c.instrs.length
  case pos =>
    obtain ⟨iad, rfl⟩ := rd_some (enc := encN) (w := w) (c := ic) Hi0.out rfl hlt
    obtain ⟨v, hv⟩ : ∃ v, c.instrs[k]? = some v := ⟨_, List.getElem?_eq_getElem hlt⟩
    obtain ⟨A, hA⟩ : ∃ A, iad.add (k * 3) = A := ⟨_, rfl⟩
    obtain ⟨z0, z1, z2⟩ := (HIs.out.ext (HX02.out.trans HX.out)).insCells hv hA
    obtain ⟨W4, hW4⟩ : ∃ W4, wr.drew = W4 := ⟨_, rfl⟩
    have hX4 : Ex wr W4 := by rw [← hW4]; exact (Keeps.refl _ _).drew
    have HX4 := Lib.hid (HX.out.trans hX4)
    have HS : Hid (W4.cell? ⟨b0, 0, none⟩ = some (.slice da xs.length dc) ∧ W4.cell? ⟨b0, 1, none⟩ = some (.slice la c.labels.length lc) ∧ W4.cell? ⟨b0, 2, none⟩ = some (.slice ta c.texts.length tc) ∧ W4.cell? ⟨b0, 3, none⟩ = some (.slice ra c.reals.length rc) ∧ W4.cell? ⟨b0, 4, none⟩ = some (.slice (some iad) c.instrs.length ic) ∧ W4.cell? A = some (.int .i64 v.op) ∧ W4.cell? ⟨A.block, A.off + 1, none⟩ = some (.int .i64 v.a) ∧ W4.cell? ⟨A.block, A.off + 2, none⟩ = some (.int .i64 v.b)) := Lib.hid ⟨ext_cell hX4 x0, ext_cell hX4 x1, ext_cell hX4 x2, ext_cell hX4 x3, ext_cell hX4 x4, ext_cell hX4 z0, ext_cell hX4 z1, ext_cell hX4 z2⟩
    have HC := Lib.hid (HIn.out W4 (HX02.out.trans HX4.out) v)
    have Hv := Lib.hid hv; have HW4 := Lib.hid hW4
    clear hv hW4 hX4
    go_upto_region 26 with fail
    clear x0 x1 x2 x3 x4 r0 r1 f0 f1 z0 z1 z2
    refine region_U_plain (n := 9) (fun V => V.cell? ⟨b0, 0, none⟩ = some (.slice da xs.length dc) ∧ V.cell? ⟨b0, 1, none⟩ = some (.slice la c.labels.length lc) ∧ V.cell? ⟨b0, 2, none⟩ = some (.slice ta c.texts.length tc) ∧ V.cell? ⟨b0, 3, none⟩ = some (.slice ra c.reals.length rc) ∧ V.cell? ⟨b0, 4, none⟩ = some (.slice (some iad) c.instrs.length ic) ∧ V.cell? A = some (.int .i64 v.op) ∧ V.cell? ⟨A.block, A.off + 1, none⟩ = some (.int .i64 v.a) ∧ V.cell? ⟨A.block, A.off + 2, none⟩ = some (.int .i64 v.b)) 6 (by kernel_rfl) ?_
    rw [HW4.out]
    refine anyU_quiet (a2 := ?au7_0) 0 rfl rfl rfl (by kernel_rfl) (by kernel_rfl) (by kernel_rfl) (by kernel_rfl) (by kernel_rfl) (by kernel_rfl) (fun _ _ _ _ h => h) HS.out ?hu7_0 ?ku7_0
    case hu7_0 => intro W hW K hK; obtain ⟨q0, q1, q2, q3, q4, q5, q6, q7⟩ := hW; go_simp; exact hK
    refine anyU_quiet (a2 := ?au7_1) 1 rfl rfl rfl (by kernel_rfl) (by kernel_rfl) (by kernel_rfl) (by kernel_rfl) (by kernel_rfl) (by kernel_rfl) (fun _ _ _ _ h => h) HS.out ?hu7_1 ?ku7_1
    case hu7_1 => intro W hW K hK; obtain ⟨q0, q1, q2, q3, q4, q5, q6, q7⟩ := hW; go_simp; exact hK
    refine anyU_quiet (a2 := ?au7_2) 2 rfl rfl rfl (by kernel_rfl) (by kernel_rfl) (by kernel_rfl) (by kernel_rfl) (by kernel_rfl) (by kernel_rfl) (fun _ _ _ _ h => h) HS.out ?hu7_2 ?ku7_2
    case hu7_2 => intro W hW K hK; obtain ⟨q0, q1, q2, q3, q4, q5, q6, q7⟩ := hW; go_simp; exact hK
    refine anyU_quiet (a2 := ?au7_3) 3 rfl rfl rfl (by kernel_rfl) (by kernel_rfl) (by kernel_rfl) (by kernel_rfl) (by kernel_rfl) (by kernel_rfl) (fun _ _ _ _ h => h) HS.out ?hu7_3 ?ku7_3
    case hu7_3 => intro W hW K hK; obtain ⟨q0, q1, q2, q3, q4, q5, q6, q7⟩ := hW; go_simp; exact hK
    refine anyU_quiet (a2 := ?au7_4) 4 rfl rfl rfl (by kernel_rfl) (by kernel_rfl) (by kernel_rfl) (by kernel_rfl) (by kernel_rfl) (by kernel_rfl) (fun _ _ _ _ h => h) HS.out ?hu7_4 ?ku7_4
    case hu7_4 => intro W hW K hK; obtain ⟨q0, q1, q2, q3, q4, q5, q6, q7⟩ := hW; go_simp; exact hK
    refine anyU_quiet (a2 := ?au7_5) 5 rfl rfl rfl (by kernel_rfl) (by kernel_rfl) (by kernel_rfl) (by kernel_rfl) (by kernel_rfl) (by kernel_rfl) (fun _ _ _ _ h => h) HS.out ?hu7_5 ?ku7_5
    case hu7_5 => intro W hW K hK; obtain ⟨q0, q1, q2, q3, q4, q5, q6, q7⟩ := hW; go_simp; exact hK
    refine anyU_only 6 rfl (by kernel_rfl) ?_
    gi_wp2_with fail
    refine (callsIn_WF HC.out).mono ?_
    rintro e w5 ⟨E, rfl, hE, hx5⟩
    have HX5 := Lib.hid (HX4.out.trans hx5)
    have HE := Lib.hid hE
    clear hx5 hE
    gi_wp2
    refine And.intro (.inl (by kernel_rfl)) ?_
    refine anyU_only 7 rfl (by kernel_rfl) ?_
    gi_wp2
    refine And.intro (.inl (by kernel_rfl)) ?_
    refine anyU_done (by kernel_rfl) ?_ _
    clear HS HC
    by_cases he : E = 0
    case neg =>
      have heb : (E != 0) = true := by simpa using he
      obtain ⟨⟨x0, x1, x2, x3, x4⟩, ⟨r0, r1, f0, f1⟩⟩ := (HF w5 HX5.out).out
      go_wp2_with fail
      refine bodyPost_ret (results_cell_row rfl _ _ (b0 + 1) 58 _ (0, 0) _ rfl (HRet.out _ HX5.out E k).1 Tryz.underlying58 rfl (by kernel_rfl)) rfl ?_
      rw [← HM.out]
      exact ⟨E, k, rfl, (HNo.out _ he (fun g => he (HE.out.2 (g.instrs v (List.mem_of_getElem? Hv.out))))), (HRet.out _ HX5.out E k).2⟩
    have hins := HE.out.1 he
    subst he
    have Hins := Lib.hid hins
    clear hins
    have hnew : Hid (∀ j, j < k + 1 → ∀ v, c.instrs[j]? = some v → insR c v = true) := Lib.hid (fun j hj => by
      by_cases e : j = k
      · subst e; intro u hu; rw [Hv.out] at hu; cases hu; exact Hins.out
      · exact HA.out j (by omega))
    go_wp2_with fail
    go_roundw
    case rel => exact ⟨k + 1, by omega, by go_num, HX5, hnew⟩
    case measure => simp [intOf]; omega
  have hkn : k = c.instrs.length := by omega
  have HA7 : Hid (∀ j, j < c.instrs.length → ∀ v, c.instrs[j]? = some v → insR c v = true) := Lib.hid (by rw [← hkn]; exact HA.out)
  clear hkn
  have HX7 := HX
  have HGood : Hid (Good c) := Lib.hid ((fineR_iff c).1 ⟨HLim.out.1, HLim.out.2.1, HLim.out.2.2.1, HLim.out.2.2.2.1, HLim.out.2.2.2.2.1, HLim.out.2.2.2.2.2.1, HLim.out.2.2.2.2.2.2,
    fun i hi => HA3.out i (by have := Hlen.out; omega),
    fun l hl => by obtain ⟨j, hj⟩ := List.getElem?_of_mem hl; exact HA4.out j (List.getElem?_eq_some_iff.1 hj).1 l hj,
    fun s hs => by obtain ⟨j, hj⟩ := List.getElem?_of_mem hs; have h1 := HA5.out j (List.getElem?_eq_some_iff.1 hj).1; rw [List.getD_eq_getElem?_getD, hj] at h1; exact h1,
    fun x hx => by obtain ⟨j, hj⟩ := List.getElem?_of_mem hx; exact HA6.out j (List.getElem?_eq_some_iff.1 hj).1 x hj,
    fun x hx => by obtain ⟨j, hj⟩ := List.getElem?_of_mem hx; exact HA7.out j (List.getElem?_eq_some_iff.1 hj).1 x hj⟩)
  go_wp2_with fail
  refine bodyPost_ret (results_cell_row rfl _ _ (b0 + 1) 58 _ (0, 0) _ rfl (HRet.out _ HX7.out 0 (-1)).1 Tryz.underlying58 rfl (by kernel_rfl)) rfl ?_
  rw [← HM.out]
  exact ⟨0, (-1), rfl, ⟨fun _ => HGood.out, fun _ => rfl⟩, (HRet.out _ HX7.out 0 (-1)).2⟩
end Go.Proofs.YtlaepkmnbbgbcaaGreatDoor
