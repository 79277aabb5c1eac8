/- CodeFlow returns true. (Written by wip/tools/genXD.py.) -/
import Derived.Test.YtlaepkmnbbgbcaaGreatDoorGS14
import Derived.Test.YtlaepkmnbbgbcaaGreatDoorGS16
import Derived.BigRegion
/- CodeFlow returns true. (Written by wip/tools/genXD.py.) -/
namespace Go.Proofs.YtlaepkmnbbgbcaaGreatDoor
open Go.RowKit Go.Instr Go.Sort
set_option linter.unusedVariables false
set_option linter.unusedSimpArgs false
attribute [local go_sem] Oper.semAt_some

theorem OwnB.setV {w : World} {base g n : Nat} {bs : List Bool} (h : OwnB w base g n bs) (a : Nat) (b : Bool) : OwnB (w.setCell ⟨g, a, none⟩ (.bool b)) base g n (bs.set a b) := by
  have := (World.ownsRow.stored h a (.bool b)).1
  unfold OwnB
  rw [List.map_set]; exact this
theorem OwnB.at {w : World} {base g n : Nat} {bs : List Bool} (h : OwnB w base g n bs) {a : Nat} {b : Bool} (hb : bs[a]? = some b) : w.cell? ⟨g, a, none⟩ = some (.bool b) := by
  rw [h.blk.1.cell a]; simp [hb]
theorem set_true {bs : List Bool} {a : Nat} (ha : a < bs.length) (b : Bool) (j : Nat) : (bs.set a b)[j]? = some true ↔ if j = a then b = true else bs[j]? = some true := by
  rw [List.getElem?_set]
  by_cases e : a = j
  · subst e; simp [ha]
  · rw [if_neg e, if_neg (fun h => e h.symm)]
theorem entries_head {c : Co} (h : Good c) : (entries c)[0]? = some 0 := by
  have h0 : (0 : Int) ∈ entries c := by
    unfold entries; rw [mem_uniq, List.mem_filter]
    exact ⟨by unfold entL; simp, by simp⟩
  have hs := (uniq_spec ((entL c).filter fun n => !decide (n < 0))).1
  have hpos : ∀ x ∈ entries c, 0 ≤ x := fun x hx => by obtain ⟨i, rfl, -⟩ := entries_ok h hx; omega
  show (entries c)[0]? = some 0
  have hs2 : (entries c).Pairwise (· < ·) := hs
  generalize entries c = l at *
  cases l with
  | nil => cases h0
  | cons a r =>
    rcases List.mem_cons.1 h0 with h1 | h1
    · rw [← h1]; rfl
    · have h2 := (List.pairwise_cons.1 hs2).1 0 h1
      have h3 := hpos a (by simp)
      omega
theorem strict_step {l : List Int} (h : l.Pairwise (· < ·)) {j : Nat} {x y : Int} (hx : l[j]? = some x) (hy : l[j + 1]? = some y) : x < y := by
  obtain ⟨h1, h2⟩ := List.getElem?_eq_some_iff.1 hx
  obtain ⟨h3, h4⟩ := List.getElem?_eq_some_iff.1 hy
  rw [← h2, ← h4]
  exact List.pairwise_iff_getElem.1 h j (j + 1) h1 h3 (by omega)
theorem OwnI.cellAt {w : World} {base b n cap : Nat} {l : List Int} (h : OwnI w base (.slice (some ⟨b, 0, none⟩) n cap) l) {j : Nat} {x : Int} (hx : l[j]? = some x) : w.cell? ⟨b, j, none⟩ = some (.int .i64 x) := by
  have hrd : RdL encI w (.slice (some ⟨b, 0, none⟩) n cap) l := by
    have h9 := h; unfold OwnI at h9; rw [← encI_flat] at h9; exact own_rd encI_len h9
  obtain ⟨a, c, e, -, -, h2⟩ := id hrd
  injection e with e e2 e3
  subst e2
  have h8 := hrd.int_at (k := j) (List.getElem?_eq_some_iff.1 hx).1
  have e8 : (⟨b, 0, none⟩ : Addr).add j = ⟨b, j, none⟩ := by unfold Addr.add; split <;> simp_all
  rw [e8] at h8
  rw [h8, List.getD_eq_getElem?_getD, hx]; rfl
theorem rch_iff {c : Co} (j : Nat) : Rch c j ↔ (j : Int) ∈ entries c ∨ ∃ k, Rch c k ∧ (j : Int) ∈ nextL c k := by
  constructor
  · intro h; cases h with
    | entry h => exact .inl h
    | step h1 h2 => exact .inr ⟨_, h1, h2⟩
  · rintro (h | ⟨k, h1, h2⟩)
    · exact .entry h
    · exact .step h1 h2
set_option maxRecDepth 100000 in
set_option maxHeartbeats 8000000 in
theorem CodeFlow_any {w : World} (hmx : Mx w) (htb : Tab w) {dv lv tv rv iv : Value} {c : Co} {xs : List DeV} (h : RdCo w dv lv tv rv iv c xs) :
    Calls Tryz.prog 9 #[codeV dv lv tv rv iv] w fun e w' => e = .returned (.bool true) ∧ Ex w w' := by
  obtain ⟨W1, hW1⟩ : ∃ W1, w.alloc (.cells #[dv, lv, tv, rv, iv] 28) = W1 := ⟨_, rfl⟩
  obtain ⟨b0, hb0⟩ : ∃ b0, w.heap.size = b0 := ⟨_, rfl⟩
  have hX1 : Ex w W1 := by rw [← hW1]; exact (Keeps.refl _ w).alloc _
  have hB0 : Blk W1 b0 #[dv, lv, tv, rv, iv] 28 := by rw [← hW1, ← hb0]; exact Blk.new w _ _
  have hf := fine_any (h.ext hX1)
  have HSan : ∀ V, Ex w V → Hid (Calls Tryz.prog 13 #[] V fun e w' => e = .returned (.bool true) ∧ Ex V w') := fun V hV => Lib.hid (sanity_any (hmx.ext hV) (htb.ext hV))
  have HEn : Hid (smallB c = true → ∀ V, Ex W1 V → Calls Tryz.prog 37 #[codeV dv lv tv rv iv] V (EntR V c)) := Lib.hid (fun hb V hV => Entries_any ((h.ext hX1).ext hV) (small_big hb))
  have HRe : Hid (smallB c = true → ∀ V, Ex W1 V → Calls Tryz.prog 38 #[codeV dv lv tv rv iv] V (ReachR V c)) := Lib.hid (fun hb V hV => Reached_any ((h.ext hX1).ext hV) (small_big hb))
  have HNx : Hid (smallB c = true → ∀ V, Ex W1 V → ∀ a : Int, Calls Tryz.prog 39 #[codeV dv lv tv rv iv, .int .i64 a] V (NextR V c a)) := Lib.hid (fun hb V hV a => Next_any ((h.ext hX1).ext hV) (small_big hb) a)
  obtain ⟨da, dc, rfl, -⟩ := id h.ds
  obtain ⟨la, lc, rfl, -⟩ := id h.ls
  obtain ⟨ta, tc, rfl, -⟩ := id h.ts
  obtain ⟨ra, rc, rfl, -⟩ := id h.rs
  obtain ⟨ia, ic, rfl, -⟩ := id h.is
  obtain ⟨ni, hni⟩ : ∃ n, c.instrs.length = n := ⟨_, rfl⟩
  rw [hni] at hf hB0 hW1 HEn HRe HNx ⊢
  have HF0 : ∀ V, Ex W1 V → Hid (V.cell? ⟨b0, 0, none⟩ = some (.slice da xs.length dc) ∧ V.cell? ⟨b0, 1, none⟩ = some (.slice la c.labels.length lc) ∧ V.cell? ⟨b0, 2, none⟩ = some (.slice ta c.texts.length tc) ∧ V.cell? ⟨b0, 3, none⟩ = some (.slice ra c.reals.length rc) ∧ V.cell? ⟨b0, 4, none⟩ = some (.slice ia ni ic)) := fun V hV =>
    ⟨((hV.blk hB0 id).cell 0).trans rfl, ((hV.blk hB0 id).cell 1).trans rfl, ((hV.blk hB0 id).cell 2).trans rfl, ((hV.blk hB0 id).cell 3).trans rfl, ((hV.blk hB0 id).cell 4).trans rfl⟩
  unfold codeV at hf HEn HRe HNx ⊢
  have HX1 := Lib.hid hX1; have HW1 := Lib.hid hW1; have Hb0 := Lib.hid hb0; have HFn := Lib.hid hf; have Hni := Lib.hid hni
  clear h hX1 hB0 hW1 hb0 hf hni hmx htb
  obtain ⟨x0, x1, x2, x3, x4⟩ := (HF0 W1 (Keeps.refl _ _)).out
  go_enter Tryz.func9, Tryz.ntmps9
  go_upto_region 1 with fail
  rw [HW1.out]
  try rw [Hb0.out]
  go_wp2_with fail
  refine HFn.out.mono ?_
  rintro e w2 ⟨rfl, hx2⟩
  have HX2 := Lib.hid hx2
  clear hx2 x0 x1 x2 x3 x4
  obtain ⟨x0, x1, x2, x3, x4⟩ := (HF0 w2 HX2.out).out
  cases hfb : fineB c with
  | false =>
    clear hfb
    go_wp2_with fail
    refine (HSan _ (HX1.out.trans HX2.out)).out.mono ?_
    rintro e ws ⟨rfl, hxs⟩
    have HXs := Lib.hid ((HX1.out.trans HX2.out).trans hxs)
    clear hxs
    go_wp2_with fail
    go_ret
    exact ⟨rfl, HXs.out⟩
  | true =>
  have hfb2 := hfb
  unfold fineB at hfb2
  simp only [Bool.and_eq_true, decide_eq_true_eq] at hfb2
  have HSm := Lib.hid hfb2.1
  have HG := Lib.hid hfb2.2
  have HGood := Lib.hid ((good_iff c).1 hfb2.2)
  have hn1 : ni ≤ 20000 := by have := HGood.out.i2; rw [Hni.out] at this; exact this
  clear hfb2 hfb
  go_wp2_with fail
  refine (HEn.out HSm.out w2 HX2.out).mono ?_
  intro e w3 he
  unfold EntR at he
  rw [if_pos HG.out] at he
  obtain ⟨v3, rfl, ho3, hx3⟩ := he
  have HEnt := Lib.hid (entries_head HGood.out)
  obtain ⟨el, hel⟩ : ∃ n, (entries c).length = n := ⟨_, rfl⟩
  obtain ⟨eb, ecap, hv3, -⟩ : ∃ (b cap : Nat), v3 = .slice (some ⟨b, 0, none⟩) el cap ∧ True := by
    rcases ho3.form with ⟨-, h2⟩ | ⟨b, cap, h1, -⟩
    · have := HEnt.out; rw [h2] at this; cases this
    · exact ⟨b, cap, by rw [h1, hel], trivial⟩
  subst hv3
  have hel1 : 0 < el := by rw [← hel]; have := (List.getElem?_eq_some_iff.1 HEnt.out).1; exact this
  have hel2 : el ≤ 20000 := by rw [← hel]; exact entries_len HGood.out
  have HX3 := Lib.hid (HX2.out.trans hx3); have HO3 := Lib.hid ho3; have Hel := Lib.hid hel
  clear hx3 ho3 hel x0 x1 x2 x3 x4
  obtain ⟨x0, x1, x2, x3, x4⟩ := (HF0 w3 HX3.out).out
  go_wp2_with fail
  refine (HRe.out HSm.out w3 HX3.out).mono ?_
  intro e w4 he
  unfold ReachR at he
  rw [if_pos HG.out, Hni.out] at he
  obtain ⟨g, bs, rfl, -, ho4, hbs, hx4⟩ := he
  have HX4 := Lib.hid (HX3.out.trans hx4); have HO4 : Hid (OwnI w4 w2.heap.size (.slice (some ⟨eb, 0, none⟩) el ecap) (entries c)) := Lib.hid (HO3.out.kept hx4 fun _ _ => id)
  have HB4 := Lib.hid ho4; have HBs := Lib.hid hbs
  clear hx4 ho4 hbs x0 x1 x2 x3 x4 HO3
  obtain ⟨x0, x1, x2, x3, x4⟩ := (HF0 w4 HX4.out).out
  have hz0 : w4.cell? ⟨eb, 0, none⟩ = some (.int .i64 0) := HO4.out.cellAt HEnt.out
  have r1 : ((0 : Int) < el) := by omega
  have r2 : ¬ ((el : Int) = 0) := by omega
  have r3 : ((el : Int) == 0) = false := by simpa using r2
  go_upto_region 7 with fail
  clear r2 r3
  obtain ⟨i0, hi, hz1, hz2, hz3⟩ := info_split info_boolS
  go_wp2_with (at_make; refine (fun h => h trivial : (True → _) → _) ?_)
  intro _
  refine wpList_make_full _ rfl _ _ 70 rfl w4.heap.size 4 i0 _ 1 Tryz.underlying70 hi hz1 hz2 .i64 .i64 ni ni ni rfl rfl rfl rfl (by rw [hz3]; omega) (by unfold maxLen; omega) (Nat.le_refl _) ?_
  intro w5 ho5 hg5
  obtain ⟨g2, hgs⟩ : ∃ g, w4.heap.size = g := ⟨_, rfl⟩
  have hrep : (madeCells (Value.bool false).cells (ni * 1)).toList = (List.replicate ni false).map Value.bool := by
    rw [List.map_replicate, Nat.mul_one]; exact toList_madeCells_one _ _
  rw [hrep, hgs] at ho5
  rw [hgs]
  have HX5 : Hid (Ex w4 w5) := Lib.hid ((Keeps.refl _ w4).grown hg5 (fun k hk => by cases hk))
  have HB5 : Hid (OwnB w5 g2 g2 ni (List.replicate ni false)) := Lib.hid ho5
  have Hgs := Lib.hid hgs
  clear ho5 hg5 hrep hgs x0 x1 x2 x3 x4 hi hz0 r1
  go_wp2_with fail
  go_loopw [8] (fun s wr => ∃ (i : Nat) (fs : List Bool), i ≤ el ∧ s = .int .i64 i ∧ Hid (Ex w4 wr) ∧ Hid (OwnB wr g2 g2 ni fs) ∧ Hid (∀ j : Nat, fs[j]? = some true ↔ (j : Int) ∈ (entries c).take i)) (fun s wr => el - (intOf s).toNat)
  case atStart => exact ⟨0, _, Nat.zero_le _, rfl, HX5, HB5, Lib.hid (fun j => by rw [List.getElem?_replicate]; split <;> simp)⟩
  case round =>
    obtain ⟨i, fs, hi, rfl, HX, HB, HF⟩ := hrel
    by_cases hlt : i < el
    case pos =>
      obtain ⟨x, hx⟩ : ∃ x, (entries c)[i]? = some x := ⟨_, List.getElem?_eq_getElem (by rw [Hel.out]; exact hlt)⟩
      obtain ⟨e, rfl, he⟩ := entries_ok HGood.out (List.mem_of_getElem? hx)
      rw [Hni.out] at he
      have hOr : OwnI wr w2.heap.size (.slice (some ⟨eb, 0, none⟩) el ecap) (entries c) := HO4.out.kept HX.out fun _ _ => id
      have hze := hOr.cellAt hx
      have hel9 : e < fs.length := by rw [HB.out.blk.2]; exact he
      obtain ⟨fv, hfv⟩ : ∃ b, fs[e]? = some b := ⟨_, List.getElem?_eq_getElem hel9⟩
      have hzf := HB.out.at hfv
      have hff : wr.frozen? ⟨g2, e, none⟩ = false := HB.out.blk.1.frozen _
      have HSt : Hid ((entries c).Pairwise (· < ·)) := Lib.hid (uniq_spec ((entL c).filter fun n => !decide (n < 0))).1
      have s1 : ¬ ((e : Int) < 0) := by omega
      have s2 : ¬ ((ni : Int) ≤ (e : Int)) := by omega
      have s2b : ¬ (ni ≤ e) := by omega
      have s3 : ((i : Int) < el) := by omega
      have s4 : ((e : Int) < ni) := by omega
      have HOr := Lib.hid hOr; have Hx := Lib.hid hx; have Hel9 := Lib.hid hel9; have He := Lib.hid he
      have hX6 : Ex w4 (wr.setCell ⟨g2, e, none⟩ (.bool true)).drew := (HX.out.setCell (.inr (by rw [Hgs.out]; exact Nat.le_refl _)) _).drew
      have hB6 : OwnB (wr.setCell ⟨g2, e, none⟩ (.bool true)).drew g2 g2 ni (fs.set e true) := (HB.out.setV e true).keep (S := fun _ => False) ((Keeps.refl _ _).drew) id
      have hF6 : ∀ j : Nat, (fs.set e true)[j]? = some true ↔ (j : Int) ∈ (entries c).take (i + 1) := fun j => by
        rw [set_true hel9, List.take_add_one, hx]
        simp only [Option.toList_some, List.mem_append, List.mem_singleton]
        by_cases ej : j = e
        · rw [if_pos ej]; simp [ej]
        · rw [if_neg ej, HF.out j]
          constructor
          · exact fun h => .inl h
          · rintro (h | h)
            · exact h
            · exact absurd (by omega) ej
      have HX6 := Lib.hid hX6; have HB6 := Lib.hid hB6; have HF6 := Lib.hid hF6
      clear hOr hx hfv hel9 he hX6 hB6 hF6
      cases i with
      | zero =>
        go_upto_region 11 with fail
        go_big_region
        go_wp2_with fail
        exact ⟨⟨1, _, by omega, rfl, HX6, HB6, HF6⟩, by simp [intOf]; omega⟩
      | succ j =>
        obtain ⟨y, hy⟩ : ∃ y, (entries c)[j]? = some y := ⟨_, List.getElem?_eq_getElem (by rw [Hel.out]; omega)⟩
        obtain ⟨e0, rfl, -⟩ := entries_ok HGood.out (List.mem_of_getElem? hy)
        have hze0 := HOr.out.cellAt hy
        have hst := strict_step HSt.out hy Hx.out
        have s5 : ¬ ((e : Int) ≤ (e0 : Int)) := by omega
        have s5b : ¬ (e ≤ e0) := by omega
        have s6 : IntKind.i64.wrap (j : Int) = (j : Int) := by simp [IntKind.wrap_i64]; omega
        have s7 : IntKind.i64.wrap ((j : Int) + 1 - 1) = (j : Int) := by simp [IntKind.wrap_i64]; omega
        have s8 : (0 : Int) < (j : Int) + 1 := by omega
        have s9 : ((j : Int) < el) := by omega
        clear hy hst
        go_upto_region 11 with fail
        go_big_region
        go_wp2_with fail
        exact ⟨⟨j + 1 + 1, _, by omega, by go_num, HX6, HB6, HF6⟩, by simp [intOf]; omega⟩
    case neg =>
      have hil : i = el := by omega
      have HF7 : Hid (∀ j : Nat, fs[j]? = some true ↔ (j : Int) ∈ entries c ∨ ∃ k, k < 0 ∧ Rch c k ∧ (j : Int) ∈ nextL c k) := Lib.hid (fun j => by
        rw [HF.out j, hil, ← Hel.out, List.take_length]; simp)
      subst hil
      clear HF hi hlt hel1
      go_wp2_with fail
      go_loopw [9] (fun s wr => ∃ (i : Nat) (fs : List Bool), i ≤ ni ∧ s = .int .i64 i ∧ Hid (Ex w4 wr) ∧ Hid (OwnB wr g2 g2 ni fs) ∧ Hid (∀ j : Nat, fs[j]? = some true ↔ (j : Int) ∈ entries c ∨ ∃ k, k < i ∧ Rch c k ∧ (j : Int) ∈ nextL c k)) (fun s wr => ni - (intOf s).toNat)
      case atStart => exact ⟨0, _, Nat.zero_le _, rfl, HX, HB, HF7⟩
      clear HX HB HF7
      case round =>
        obtain ⟨q, fs, hq, rfl, HX, HB, HF⟩ := hrel
        by_cases hlt : q < ni
        case pos =>
          have HXq := Lib.hid (HX4.out.trans HX.out)
          obtain ⟨x0, x1, x2, x3, x4⟩ := (HF0 wr HXq.out).out
          obtain ⟨rv, hrv⟩ : ∃ b, bs[q]? = some b := ⟨_, List.getElem?_eq_getElem (by rw [HB4.out.blk.2]; exact hlt)⟩
          have HRch : Hid (rv = true ↔ Rch c q) := Lib.hid (by rw [← HBs.out q, hrv]; simp)
          have Hrv := Lib.hid hrv
          have s1 : ((q : Int) < ni) := by omega
          clear hrv
          go_wp2_with fail
          refine (HNx.out HSm.out wr HXq.out q).mono ?_
          intro e w6 he
          unfold NextR at he
          rw [if_pos ⟨HG.out, by omega, by rw [Hni.out]; exact s1⟩] at he
          obtain ⟨v6, rfl, ho6, hx6⟩ := he
          rw [show ((q : Int).toNat) = q from rfl] at ho6
          obtain ⟨nl, hnl⟩ : ∃ n, (nextL c q).length = n := ⟨_, rfl⟩
          have hnl2 : nl ≤ 2 := by rw [← hnl]; exact nextL_len c q
          obtain ⟨va, vc, hv6⟩ := own_slice ho6
          rw [hnl] at hv6
          subst hv6
          have HX6 := Lib.hid (HX.out.trans hx6); have HB6 := Lib.hid (HB.out.keep hx6 id); have HO6 := Lib.hid ho6; have Hnl := Lib.hid hnl
          have HN6 : Hid (∀ k, (Value.slice va nl vc).ownBlock = some k → ¬ k = g2) := Lib.hid (fun k hk => own_blk ho6 hk (HB.out.keep hx6 id))
          have HF6 : Hid (∀ j : Nat, fs[j]? = some true ↔ (j : Int) ∈ entries c ∨ (∃ k, k < q ∧ Rch c k ∧ (j : Int) ∈ nextL c k) ∨ (Rch c q ∧ (j : Int) ∈ (nextL c q).take 0)) := Lib.hid (fun j => by rw [HF.out j]; simp)
          have s2 : ¬ ((2 : Int) < nl) := by omega
          clear ho6 hx6 hnl x0 x1 x2 x3 x4
          go_wp2_with fail
          clear s2
          go_loopw [12] (fun s V => ∃ (k : Nat) (fs : List Bool), k ≤ nl ∧ s = .int .i64 k ∧ Hid (Ex w4 V) ∧ Hid (Keeps (fun k => k = g2) w6 V) ∧ Hid (OwnB V g2 g2 ni fs) ∧ Hid (∀ j : Nat, fs[j]? = some true ↔ (j : Int) ∈ entries c ∨ (∃ k, k < q ∧ Rch c k ∧ (j : Int) ∈ nextL c k) ∨ (Rch c q ∧ (j : Int) ∈ (nextL c q).take k))) (fun s V => nl - (intOf s).toNat)
          case atStart => exact ⟨0, _, Nat.zero_le _, rfl, HX6, Lib.hid (Keeps.refl _ _), HB6, HF6⟩
          clear HF HB HX
          case round =>
            obtain ⟨k, fs, hk, rfl, HX, HK, HB, HF⟩ := hrel
            by_cases hlk : k < nl
            case pos =>
              obtain ⟨x, hx⟩ : ∃ x, (nextL c q)[k]? = some x := ⟨_, List.getElem?_eq_getElem (by rw [Hnl.out]; exact hlk)⟩
              obtain ⟨e, rfl, he⟩ := nextL_ok HGood.out (by rw [Hni.out]; exact hlt) (List.mem_of_getElem? hx)
              rw [Hni.out] at he
              obtain ⟨vb, rfl⟩ : ∃ b, va = some ⟨b, 0, none⟩ := by
                rcases HO6.out.form with ⟨-, h2⟩ | ⟨b, cap, h1, -⟩
                · rw [h2] at hx; simp at hx
                · injection h1 with h1; exact ⟨b, h1⟩
              have hOr := HO6.out.kept HK.out HN6.out
              have hze := hOr.cellAt hx
              have hel9 : e < fs.length := by rw [HB.out.blk.2]; exact he
              obtain ⟨fv, hfv⟩ : ∃ b, fs[e]? = some b := ⟨_, List.getElem?_eq_getElem hel9⟩
              have HSt : Hid ((nextL c q).Pairwise (· < ·)) := Lib.hid (uniq_spec _).1
              have s1b : ¬ ((e : Int) < 0) := by omega
              have s2 : ¬ ((ni : Int) ≤ (e : Int)) := by omega
              have s2b : ¬ (ni ≤ e) := by omega
              have s3 : ((k : Int) < nl) := by omega
              have s4 : ((e : Int) < ni) := by omega
              have HFnext : Hid (∀ j : Nat, (fs.set e (fv || rv))[j]? = some true ↔ (j : Int) ∈ entries c ∨ (∃ k, k < q ∧ Rch c k ∧ (j : Int) ∈ nextL c k) ∨ (Rch c q ∧ (j : Int) ∈ (nextL c q).take (k + 1))) := Lib.hid (fun j => by
                have hfe := HF.out e
                rw [hfv] at hfe
                have hr := HRch.out
                rw [set_true hel9, List.take_add_one, hx]
                simp only [Option.toList_some, List.mem_append, List.mem_singleton]
                by_cases ej : j = e
                · rw [if_pos ej]
                  subst ej
                  constructor
                  · intro hv
                    cases fv with
                    | true =>
                      rcases hfe.1 rfl with h1 | h1 | ⟨h1, h2⟩
                      · exact .inl h1
                      · exact .inr (.inl h1)
                      · exact .inr (.inr ⟨h1, .inl h2⟩)
                    | false => exact .inr (.inr ⟨hr.1 (by simpa using hv), .inr rfl⟩)
                  · rintro (h1 | h1 | ⟨h1, h2⟩)
                    · have := hfe.2 (.inl h1); injection this with this; rw [this]; rfl
                    · have := hfe.2 (.inr (.inl h1)); injection this with this; rw [this]; rfl
                    · rw [hr.2 h1]; simp
                · rw [if_neg ej, HF.out j]
                  have hne : ¬ (j : Int) = (e : Int) := by omega
                  simp [hne])
              have HOr := Lib.hid hOr; have Hx := Lib.hid hx; have Hfv := Lib.hid hfv
              clear hOr hx hfv hel9 he
              cases k with
              | zero =>
                go_upto_region 23 with fail
                go_big_region
                go_upto_region 25 with fail
                clear hze
                obtain ⟨W8, hW8⟩ : ∃ W, wr.drew.drew = W := ⟨_, rfl⟩
                have hX8 : Ex wr W8 := by rw [← hW8]; exact ((Keeps.refl _ wr).drew).drew
                have hOr8 := HOr.out.kept hX8 fun _ _ => id
                have hB8 := HB.out.keep hX8 id
                have hG8 : OwnB W8 w3.heap.size g ni bs := HB4.out.keep (HX.out.trans hX8) id
                have HQ : Hid (W8.cell? ⟨vb, 0, none⟩ = some (.int .i64 (e : Nat)) ∧ W8.cell? ⟨g2, e, none⟩ = some (.bool fv) ∧ W8.cell? ⟨g, q, none⟩ = some (.bool rv)) := Lib.hid ⟨hOr8.cellAt Hx.out, hB8.at Hfv.out, hG8.at Hrv.out⟩
                have q8 : W8.cell? ⟨g2, e, none⟩ = some (.bool fv) := hB8.at Hfv.out
                have f8 : W8.frozen? ⟨g2, e, none⟩ = false := hB8.blk.1.frozen _
                obtain ⟨W9, hW9⟩ : ∃ W, W8.setCell ⟨g2, e, none⟩ (.bool (fv || rv)) = W := ⟨_, rfl⟩
                have HX9 : Hid (Ex w4 W9) := Lib.hid (by rw [← hW9]; exact (HX.out.trans hX8).setCell (.inr (by rw [Hgs.out]; exact Nat.le_refl _)) _)
                have HK9 : Hid (Keeps (fun k => k = g2) w6 W9) := Lib.hid (by rw [← hW9]; exact (HK.out.trans (hX8.mono fun _ _ h => h.elim)).setCell (.inl rfl) _)
                have HB9 : Hid (OwnB W9 g2 g2 ni (fs.set e (fv || rv))) := Lib.hid (by rw [← hW9]; exact hB8.setV e _)
                have HF9 := HFnext
                have HW9 := Lib.hid hW9
                clear hX8 hOr8 hB8 hG8 hW9
                refine region_U_plain (n := 9) (fun V => V.cell? ⟨vb, 0, none⟩ = some (.int .i64 (e : Nat)) ∧ V.cell? ⟨g2, e, none⟩ = some (.bool fv) ∧ V.cell? ⟨g, q, none⟩ = some (.bool rv)) 19 (by kernel_rfl) ?_
                rw [hW8]
                clear hW8
                have t1 : ((0 : Int) < nl) := by omega
                cases fv with
                | true =>
                  refine anyU_quiet (a2 := ?a0) 0 rfl rfl rfl (by kernel_rfl) (by kernel_rfl) (by kernel_rfl) (by kernel_rfl) (by kernel_rfl) (by kernel_rfl) (fun _ _ _ _ h => h) HQ.out ?h0 ?k0
                  case h0 => intro W hW K hK; obtain ⟨t2, t3, t4⟩ := hW; go_simp; exact hK
                  refine anyU_quiet (a2 := ?a1) 1 rfl rfl rfl (by kernel_rfl) (by kernel_rfl) (by kernel_rfl) (by kernel_rfl) (by kernel_rfl) (by kernel_rfl) (fun _ _ _ _ h => h) HQ.out ?h1 ?k1
                  case h1 => intro W hW K hK; obtain ⟨t2, t3, t4⟩ := hW; go_simp; exact hK
                  refine anyU_quiet (a2 := ?a2) 2 rfl rfl rfl (by kernel_rfl) (by kernel_rfl) (by kernel_rfl) (by kernel_rfl) (by kernel_rfl) (by kernel_rfl) (fun _ _ _ _ h => h) HQ.out ?h2 ?k2
                  case h2 => intro W hW K hK; obtain ⟨t2, t3, t4⟩ := hW; go_simp; exact hK
                  refine anyU_quiet (a2 := ?a3) 3 rfl rfl rfl (by kernel_rfl) (by kernel_rfl) (by kernel_rfl) (by kernel_rfl) (by kernel_rfl) (by kernel_rfl) (fun _ _ _ _ h => h) HQ.out ?h3 ?k3
                  case h3 => intro W hW K hK; obtain ⟨t2, t3, t4⟩ := hW; go_simp; exact hK
                  refine anyU_quiet (a2 := ?a4) 4 rfl rfl rfl (by kernel_rfl) (by kernel_rfl) (by kernel_rfl) (by kernel_rfl) (by kernel_rfl) (by kernel_rfl) (fun _ _ _ _ h => h) HQ.out ?h4 ?k4
                  case h4 => intro W hW K hK; obtain ⟨t2, t3, t4⟩ := hW; go_simp; exact hK
                  refine anyU_quiet (a2 := ?a5) 5 rfl rfl rfl (by kernel_rfl) (by kernel_rfl) (by kernel_rfl) (by kernel_rfl) (by kernel_rfl) (by kernel_rfl) (fun _ _ _ _ h => h) HQ.out ?h5 ?k5
                  case h5 => intro W hW K hK; obtain ⟨t2, t3, t4⟩ := hW; go_simp; exact hK
                  refine anyU_quiet (a2 := ?a6) 6 rfl rfl rfl (by kernel_rfl) (by kernel_rfl) (by kernel_rfl) (by kernel_rfl) (by kernel_rfl) (by kernel_rfl) (fun _ _ _ _ h => h) HQ.out ?h6 ?k6
                  case h6 => intro W hW K hK; obtain ⟨t2, t3, t4⟩ := hW; go_simp; exact hK
                  refine anyU_quiet (a2 := ?a7) 7 rfl rfl rfl (by kernel_rfl) (by kernel_rfl) (by kernel_rfl) (by kernel_rfl) (by kernel_rfl) (by kernel_rfl) (fun _ _ _ _ h => h) HQ.out ?h7 ?k7
                  case h7 => intro W hW K hK; obtain ⟨t2, t3, t4⟩ := hW; go_simp; exact hK
                  refine anyU_quiet (a2 := ?a8) 8 rfl rfl rfl (by kernel_rfl) (by kernel_rfl) (by kernel_rfl) (by kernel_rfl) (by kernel_rfl) (by kernel_rfl) (fun _ _ _ _ h => h) HQ.out ?h8 ?k8
                  case h8 => intro W hW K hK; obtain ⟨t2, t3, t4⟩ := hW; go_simp; exact hK
                  refine anyU_quiet (a2 := ?a9) 9 rfl rfl rfl (by kernel_rfl) (by kernel_rfl) (by kernel_rfl) (by kernel_rfl) (by kernel_rfl) (by kernel_rfl) (fun _ _ _ _ h => h) HQ.out ?h9 ?k9
                  case h9 => intro W hW K hK; obtain ⟨t2, t3, t4⟩ := hW; go_simp; exact hK
                  refine anyU_quiet (a2 := ?a10) 10 rfl rfl rfl (by kernel_rfl) (by kernel_rfl) (by kernel_rfl) (by kernel_rfl) (by kernel_rfl) (by kernel_rfl) (fun _ _ _ _ h => h) HQ.out ?h10 ?k10
                  case h10 => intro W hW K hK; obtain ⟨t2, t3, t4⟩ := hW; go_simp; exact hK
                  refine anyU_quiet (a2 := ?a11) 11 rfl rfl rfl (by kernel_rfl) (by kernel_rfl) (by kernel_rfl) (by kernel_rfl) (by kernel_rfl) (by kernel_rfl) (fun _ _ _ _ h => h) HQ.out ?h11 ?k11
                  case h11 => intro W hW K hK; obtain ⟨t2, t3, t4⟩ := hW; go_simp; exact hK
                  refine anyU_quiet (a2 := ?a12) 12 rfl rfl rfl (by kernel_rfl) (by kernel_rfl) (by kernel_rfl) (by kernel_rfl) (by kernel_rfl) (by kernel_rfl) (fun _ _ _ _ h => h) HQ.out ?h12 ?k12
                  case h12 => intro W hW K hK; obtain ⟨t2, t3, t4⟩ := hW; go_simp; exact hK
                  refine anyU_quiet (a2 := ?a13) 13 rfl rfl rfl (by kernel_rfl) (by kernel_rfl) (by kernel_rfl) (by kernel_rfl) (by kernel_rfl) (by kernel_rfl) (fun _ _ _ _ h => h) HQ.out ?h13 ?k13
                  case h13 => intro W hW K hK; obtain ⟨t2, t3, t4⟩ := hW; go_simp; exact hK
                  refine anyU_quiet (a2 := ?a14) 14 rfl rfl rfl (by kernel_rfl) (by kernel_rfl) (by kernel_rfl) (by kernel_rfl) (by kernel_rfl) (by kernel_rfl) (fun _ _ _ _ h => h) HQ.out ?h14 ?k14
                  case h14 => intro W hW K hK; obtain ⟨t2, t3, t4⟩ := hW; go_simp; exact hK
                  refine anyU_quiet (a2 := ?a15) 15 rfl rfl rfl (by kernel_rfl) (by kernel_rfl) (by kernel_rfl) (by kernel_rfl) (by kernel_rfl) (by kernel_rfl) (fun _ _ _ _ h => h) HQ.out ?h15 ?k15
                  case h15 => intro W hW K hK; obtain ⟨t2, t3, t4⟩ := hW; go_simp; exact hK
                  refine anyU_quiet (a2 := ?a16) 16 rfl rfl rfl (by kernel_rfl) (by kernel_rfl) (by kernel_rfl) (by kernel_rfl) (by kernel_rfl) (by kernel_rfl) (fun _ _ _ _ h => h) HQ.out ?h16 ?k16
                  case h16 => intro W hW K hK; obtain ⟨t2, t3, t4⟩ := hW; go_simp; exact hK
                  refine anyU_quiet (a2 := ?a17) 17 rfl rfl rfl (by kernel_rfl) (by kernel_rfl) (by kernel_rfl) (by kernel_rfl) (by kernel_rfl) (by kernel_rfl) (fun _ _ _ _ h => h) HQ.out ?h17 ?k17
                  case h17 => intro W hW K hK; obtain ⟨t2, t3, t4⟩ := hW; go_simp; exact hK
                  refine anyU_only 18 rfl (by kernel_rfl) ?_
                  gi_wp2
                  refine And.intro (by first | exact HQ.out | exact .inr HQ.out) ?_
                  refine anyU_only 19 rfl (by kernel_rfl) ?_
                  gi_wp2
                  first | rw [HW9.out] | (have h9 := HW9.out; simp only [Bool.true_or, Bool.false_or] at h9; rw [h9])
                  refine And.intro (.inl (by kernel_rfl)) ?_
                  refine anyU_done (by kernel_rfl) ?_ _
                  clear q8 f8
                  go_wp2_with fail
                  go_roundw
                  case rel => exact ⟨1, _, by omega, rfl, HX9, HK9, HB9, HF9⟩
                  case measure => simp [intOf]; omega
                | false =>
                  refine anyU_quiet (a2 := ?au2_0) 0 rfl rfl rfl (by kernel_rfl) (by kernel_rfl) (by kernel_rfl) (by kernel_rfl) (by kernel_rfl) (by kernel_rfl) (fun _ _ _ _ h => h) HQ.out ?hu2_0 ?ku2_0
                  case hu2_0 => intro W hW K hK; obtain ⟨t2, t3, t4⟩ := hW; go_simp; exact hK
                  refine anyU_quiet (a2 := ?au2_1) 1 rfl rfl rfl (by kernel_rfl) (by kernel_rfl) (by kernel_rfl) (by kernel_rfl) (by kernel_rfl) (by kernel_rfl) (fun _ _ _ _ h => h) HQ.out ?hu2_1 ?ku2_1
                  case hu2_1 => intro W hW K hK; obtain ⟨t2, t3, t4⟩ := hW; go_simp; exact hK
                  refine anyU_quiet (a2 := ?au2_2) 2 rfl rfl rfl (by kernel_rfl) (by kernel_rfl) (by kernel_rfl) (by kernel_rfl) (by kernel_rfl) (by kernel_rfl) (fun _ _ _ _ h => h) HQ.out ?hu2_2 ?ku2_2
                  case hu2_2 => intro W hW K hK; obtain ⟨t2, t3, t4⟩ := hW; go_simp; exact hK
                  refine anyU_quiet (a2 := ?au2_3) 3 rfl rfl rfl (by kernel_rfl) (by kernel_rfl) (by kernel_rfl) (by kernel_rfl) (by kernel_rfl) (by kernel_rfl) (fun _ _ _ _ h => h) HQ.out ?hu2_3 ?ku2_3
                  case hu2_3 => intro W hW K hK; obtain ⟨t2, t3, t4⟩ := hW; go_simp; exact hK
                  refine anyU_quiet (a2 := ?au2_4) 4 rfl rfl rfl (by kernel_rfl) (by kernel_rfl) (by kernel_rfl) (by kernel_rfl) (by kernel_rfl) (by kernel_rfl) (fun _ _ _ _ h => h) HQ.out ?hu2_4 ?ku2_4
                  case hu2_4 => intro W hW K hK; obtain ⟨t2, t3, t4⟩ := hW; go_simp; exact hK
                  refine anyU_quiet (a2 := ?au2_5) 5 rfl rfl rfl (by kernel_rfl) (by kernel_rfl) (by kernel_rfl) (by kernel_rfl) (by kernel_rfl) (by kernel_rfl) (fun _ _ _ _ h => h) HQ.out ?hu2_5 ?ku2_5
                  case hu2_5 => intro W hW K hK; obtain ⟨t2, t3, t4⟩ := hW; go_simp; exact hK
                  refine anyU_quiet (a2 := ?au2_6) 6 rfl rfl rfl (by kernel_rfl) (by kernel_rfl) (by kernel_rfl) (by kernel_rfl) (by kernel_rfl) (by kernel_rfl) (fun _ _ _ _ h => h) HQ.out ?hu2_6 ?ku2_6
                  case hu2_6 => intro W hW K hK; obtain ⟨t2, t3, t4⟩ := hW; go_simp; exact hK
                  refine anyU_quiet (a2 := ?au2_7) 7 rfl rfl rfl (by kernel_rfl) (by kernel_rfl) (by kernel_rfl) (by kernel_rfl) (by kernel_rfl) (by kernel_rfl) (fun _ _ _ _ h => h) HQ.out ?hu2_7 ?ku2_7
                  case hu2_7 => intro W hW K hK; obtain ⟨t2, t3, t4⟩ := hW; go_simp; exact hK
                  refine anyU_quiet (a2 := ?au2_8) 8 rfl rfl rfl (by kernel_rfl) (by kernel_rfl) (by kernel_rfl) (by kernel_rfl) (by kernel_rfl) (by kernel_rfl) (fun _ _ _ _ h => h) HQ.out ?hu2_8 ?ku2_8
                  case hu2_8 => intro W hW K hK; obtain ⟨t2, t3, t4⟩ := hW; go_simp; exact hK
                  refine anyU_quiet (a2 := ?au2_9) 9 rfl rfl rfl (by kernel_rfl) (by kernel_rfl) (by kernel_rfl) (by kernel_rfl) (by kernel_rfl) (by kernel_rfl) (fun _ _ _ _ h => h) HQ.out ?hu2_9 ?ku2_9
                  case hu2_9 => intro W hW K hK; obtain ⟨t2, t3, t4⟩ := hW; go_simp; exact hK
                  refine anyU_quiet (a2 := ?au2_10) 10 rfl rfl rfl (by kernel_rfl) (by kernel_rfl) (by kernel_rfl) (by kernel_rfl) (by kernel_rfl) (by kernel_rfl) (fun _ _ _ _ h => h) HQ.out ?hu2_10 ?ku2_10
                  case hu2_10 => intro W hW K hK; obtain ⟨t2, t3, t4⟩ := hW; go_simp; exact hK
                  refine anyU_quiet (a2 := ?au2_11) 11 rfl rfl rfl (by kernel_rfl) (by kernel_rfl) (by kernel_rfl) (by kernel_rfl) (by kernel_rfl) (by kernel_rfl) (fun _ _ _ _ h => h) HQ.out ?hu2_11 ?ku2_11
                  case hu2_11 => intro W hW K hK; obtain ⟨t2, t3, t4⟩ := hW; go_simp; exact hK
                  refine anyU_quiet (a2 := ?au2_12) 12 rfl rfl rfl (by kernel_rfl) (by kernel_rfl) (by kernel_rfl) (by kernel_rfl) (by kernel_rfl) (by kernel_rfl) (fun _ _ _ _ h => h) HQ.out ?hu2_12 ?ku2_12
                  case hu2_12 => intro W hW K hK; obtain ⟨t2, t3, t4⟩ := hW; go_simp; exact hK
                  refine anyU_quiet (a2 := ?au2_13) 13 rfl rfl rfl (by kernel_rfl) (by kernel_rfl) (by kernel_rfl) (by kernel_rfl) (by kernel_rfl) (by kernel_rfl) (fun _ _ _ _ h => h) HQ.out ?hu2_13 ?ku2_13
                  case hu2_13 => intro W hW K hK; obtain ⟨t2, t3, t4⟩ := hW; go_simp; exact hK
                  refine anyU_quiet (a2 := ?au2_14) 14 rfl rfl rfl (by kernel_rfl) (by kernel_rfl) (by kernel_rfl) (by kernel_rfl) (by kernel_rfl) (by kernel_rfl) (fun _ _ _ _ h => h) HQ.out ?hu2_14 ?ku2_14
                  case hu2_14 => intro W hW K hK; obtain ⟨t2, t3, t4⟩ := hW; go_simp; exact hK
                  refine anyU_quiet (a2 := ?au2_15) 15 rfl rfl rfl (by kernel_rfl) (by kernel_rfl) (by kernel_rfl) (by kernel_rfl) (by kernel_rfl) (by kernel_rfl) (fun _ _ _ _ h => h) HQ.out ?hu2_15 ?ku2_15
                  case hu2_15 => intro W hW K hK; obtain ⟨t2, t3, t4⟩ := hW; go_simp; exact hK
                  refine anyU_quiet (a2 := ?au2_16) 16 rfl rfl rfl (by kernel_rfl) (by kernel_rfl) (by kernel_rfl) (by kernel_rfl) (by kernel_rfl) (by kernel_rfl) (fun _ _ _ _ h => h) HQ.out ?hu2_16 ?ku2_16
                  case hu2_16 => intro W hW K hK; obtain ⟨t2, t3, t4⟩ := hW; go_simp; exact hK
                  refine anyU_quiet (a2 := ?au2_17) 17 rfl rfl rfl (by kernel_rfl) (by kernel_rfl) (by kernel_rfl) (by kernel_rfl) (by kernel_rfl) (by kernel_rfl) (fun _ _ _ _ h => h) HQ.out ?hu2_17 ?ku2_17
                  case hu2_17 => intro W hW K hK; obtain ⟨t2, t3, t4⟩ := hW; go_simp; exact hK
                  refine anyU_only 18 rfl (by kernel_rfl) ?_
                  gi_wp2
                  refine And.intro (by first | exact HQ.out | exact .inr HQ.out) ?_
                  refine anyU_only 19 rfl (by kernel_rfl) ?_
                  gi_wp2
                  first | rw [HW9.out] | (have h9 := HW9.out; simp only [Bool.true_or, Bool.false_or] at h9; rw [h9])
                  refine And.intro (.inl (by kernel_rfl)) ?_
                  refine anyU_done (by kernel_rfl) ?_ _
                  clear q8 f8
                  go_wp2_with fail
                  go_roundw
                  case rel => exact ⟨1, _, by omega, rfl, HX9, HK9, HB9, HF9⟩
                  case measure => simp [intOf]; omega
              | succ j =>
                obtain ⟨y, hy⟩ : ∃ y, (nextL c q)[j]? = some y := ⟨_, List.getElem?_eq_getElem (by rw [Hnl.out]; omega)⟩
                obtain ⟨e0, rfl, -⟩ := nextL_ok HGood.out (by rw [Hni.out]; exact hlt) (List.mem_of_getElem? hy)
                have hze0 := HOr.out.cellAt hy
                have hst := strict_step HSt.out hy Hx.out
                have s5 : ¬ ((e : Int) ≤ (e0 : Int)) := by omega
                have s5b : ¬ (e ≤ e0) := by omega
                have s6 : IntKind.i64.wrap (j : Int) = (j : Int) := by simp [IntKind.wrap_i64]; omega
                have s7 : IntKind.i64.wrap ((j : Int) + 1 - 1) = (j : Int) := by simp [IntKind.wrap_i64]; omega
                have s8 : (0 : Int) < (j : Int) + 1 := by omega
                have s9 : ((j : Int) < nl) := by omega
                clear hy hst
                go_upto_region 23 with fail
                go_big_region
                go_upto_region 25 with fail
                clear hze
                clear hze0 s5 s5b s6 s7 s8 s9
                obtain ⟨W8, hW8⟩ : ∃ W, wr.drew.drew = W := ⟨_, rfl⟩
                have hX8 : Ex wr W8 := by rw [← hW8]; exact ((Keeps.refl _ wr).drew).drew
                have hOr8 := HOr.out.kept hX8 fun _ _ => id
                have hB8 := HB.out.keep hX8 id
                have hG8 : OwnB W8 w3.heap.size g ni bs := HB4.out.keep (HX.out.trans hX8) id
                have HQ : Hid (W8.cell? ⟨vb, j + 1, none⟩ = some (.int .i64 (e : Nat)) ∧ W8.cell? ⟨g2, e, none⟩ = some (.bool fv) ∧ W8.cell? ⟨g, q, none⟩ = some (.bool rv)) := Lib.hid ⟨hOr8.cellAt Hx.out, hB8.at Hfv.out, hG8.at Hrv.out⟩
                have q8 : W8.cell? ⟨g2, e, none⟩ = some (.bool fv) := hB8.at Hfv.out
                have f8 : W8.frozen? ⟨g2, e, none⟩ = false := hB8.blk.1.frozen _
                obtain ⟨W9, hW9⟩ : ∃ W, W8.setCell ⟨g2, e, none⟩ (.bool (fv || rv)) = W := ⟨_, rfl⟩
                have HX9 : Hid (Ex w4 W9) := Lib.hid (by rw [← hW9]; exact (HX.out.trans hX8).setCell (.inr (by rw [Hgs.out]; exact Nat.le_refl _)) _)
                have HK9 : Hid (Keeps (fun k => k = g2) w6 W9) := Lib.hid (by rw [← hW9]; exact (HK.out.trans (hX8.mono fun _ _ h => h.elim)).setCell (.inl rfl) _)
                have HB9 : Hid (OwnB W9 g2 g2 ni (fs.set e (fv || rv))) := Lib.hid (by rw [← hW9]; exact hB8.setV e _)
                have HF9 := HFnext
                have HW9 := Lib.hid hW9
                clear hX8 hOr8 hB8 hG8 hW9
                refine region_U_plain (n := 9) (fun V => V.cell? ⟨vb, j + 1, none⟩ = some (.int .i64 (e : Nat)) ∧ V.cell? ⟨g2, e, none⟩ = some (.bool fv) ∧ V.cell? ⟨g, q, none⟩ = some (.bool rv)) 19 (by kernel_rfl) ?_
                rw [hW8]
                clear hW8
                have t1 : (((j : Int) + 1 : Int) < nl) := by omega
                have t1c : (0 : Int) ≤ (j : Int) + 1 := by omega
                cases fv with
                | true =>
                  refine anyU_quiet (a2 := ?au3_0) 0 rfl rfl rfl (by kernel_rfl) (by kernel_rfl) (by kernel_rfl) (by kernel_rfl) (by kernel_rfl) (by kernel_rfl) (fun _ _ _ _ h => h) HQ.out ?hu3_0 ?ku3_0
                  case hu3_0 => intro W hW K hK; obtain ⟨t2, t3, t4⟩ := hW; go_simp; exact hK
                  refine anyU_quiet (a2 := ?au3_1) 1 rfl rfl rfl (by kernel_rfl) (by kernel_rfl) (by kernel_rfl) (by kernel_rfl) (by kernel_rfl) (by kernel_rfl) (fun _ _ _ _ h => h) HQ.out ?hu3_1 ?ku3_1
                  case hu3_1 => intro W hW K hK; obtain ⟨t2, t3, t4⟩ := hW; go_simp; exact hK
                  refine anyU_quiet (a2 := ?au3_2) 2 rfl rfl rfl (by kernel_rfl) (by kernel_rfl) (by kernel_rfl) (by kernel_rfl) (by kernel_rfl) (by kernel_rfl) (fun _ _ _ _ h => h) HQ.out ?hu3_2 ?ku3_2
                  case hu3_2 => intro W hW K hK; obtain ⟨t2, t3, t4⟩ := hW; go_simp; exact hK
                  refine anyU_quiet (a2 := ?au3_3) 3 rfl rfl rfl (by kernel_rfl) (by kernel_rfl) (by kernel_rfl) (by kernel_rfl) (by kernel_rfl) (by kernel_rfl) (fun _ _ _ _ h => h) HQ.out ?hu3_3 ?ku3_3
                  case hu3_3 => intro W hW K hK; obtain ⟨t2, t3, t4⟩ := hW; go_simp; exact hK
                  refine anyU_quiet (a2 := ?au3_4) 4 rfl rfl rfl (by kernel_rfl) (by kernel_rfl) (by kernel_rfl) (by kernel_rfl) (by kernel_rfl) (by kernel_rfl) (fun _ _ _ _ h => h) HQ.out ?hu3_4 ?ku3_4
                  case hu3_4 => intro W hW K hK; obtain ⟨t2, t3, t4⟩ := hW; go_simp; exact hK
                  refine anyU_quiet (a2 := ?au3_5) 5 rfl rfl rfl (by kernel_rfl) (by kernel_rfl) (by kernel_rfl) (by kernel_rfl) (by kernel_rfl) (by kernel_rfl) (fun _ _ _ _ h => h) HQ.out ?hu3_5 ?ku3_5
                  case hu3_5 => intro W hW K hK; obtain ⟨t2, t3, t4⟩ := hW; go_simp; exact hK
                  refine anyU_quiet (a2 := ?au3_6) 6 rfl rfl rfl (by kernel_rfl) (by kernel_rfl) (by kernel_rfl) (by kernel_rfl) (by kernel_rfl) (by kernel_rfl) (fun _ _ _ _ h => h) HQ.out ?hu3_6 ?ku3_6
                  case hu3_6 => intro W hW K hK; obtain ⟨t2, t3, t4⟩ := hW; go_simp; exact hK
                  refine anyU_quiet (a2 := ?au3_7) 7 rfl rfl rfl (by kernel_rfl) (by kernel_rfl) (by kernel_rfl) (by kernel_rfl) (by kernel_rfl) (by kernel_rfl) (fun _ _ _ _ h => h) HQ.out ?hu3_7 ?ku3_7
                  case hu3_7 => intro W hW K hK; obtain ⟨t2, t3, t4⟩ := hW; go_simp; exact hK
                  refine anyU_quiet (a2 := ?au3_8) 8 rfl rfl rfl (by kernel_rfl) (by kernel_rfl) (by kernel_rfl) (by kernel_rfl) (by kernel_rfl) (by kernel_rfl) (fun _ _ _ _ h => h) HQ.out ?hu3_8 ?ku3_8
                  case hu3_8 => intro W hW K hK; obtain ⟨t2, t3, t4⟩ := hW; go_simp; exact hK
                  refine anyU_quiet (a2 := ?au3_9) 9 rfl rfl rfl (by kernel_rfl) (by kernel_rfl) (by kernel_rfl) (by kernel_rfl) (by kernel_rfl) (by kernel_rfl) (fun _ _ _ _ h => h) HQ.out ?hu3_9 ?ku3_9
                  case hu3_9 => intro W hW K hK; obtain ⟨t2, t3, t4⟩ := hW; go_simp; exact hK
                  refine anyU_quiet (a2 := ?au3_10) 10 rfl rfl rfl (by kernel_rfl) (by kernel_rfl) (by kernel_rfl) (by kernel_rfl) (by kernel_rfl) (by kernel_rfl) (fun _ _ _ _ h => h) HQ.out ?hu3_10 ?ku3_10
                  case hu3_10 => intro W hW K hK; obtain ⟨t2, t3, t4⟩ := hW; go_simp; exact hK
                  refine anyU_quiet (a2 := ?au3_11) 11 rfl rfl rfl (by kernel_rfl) (by kernel_rfl) (by kernel_rfl) (by kernel_rfl) (by kernel_rfl) (by kernel_rfl) (fun _ _ _ _ h => h) HQ.out ?hu3_11 ?ku3_11
                  case hu3_11 => intro W hW K hK; obtain ⟨t2, t3, t4⟩ := hW; go_simp; exact hK
                  refine anyU_quiet (a2 := ?au3_12) 12 rfl rfl rfl (by kernel_rfl) (by kernel_rfl) (by kernel_rfl) (by kernel_rfl) (by kernel_rfl) (by kernel_rfl) (fun _ _ _ _ h => h) HQ.out ?hu3_12 ?ku3_12
                  case hu3_12 => intro W hW K hK; obtain ⟨t2, t3, t4⟩ := hW; go_simp; exact hK
                  refine anyU_quiet (a2 := ?au3_13) 13 rfl rfl rfl (by kernel_rfl) (by kernel_rfl) (by kernel_rfl) (by kernel_rfl) (by kernel_rfl) (by kernel_rfl) (fun _ _ _ _ h => h) HQ.out ?hu3_13 ?ku3_13
                  case hu3_13 => intro W hW K hK; obtain ⟨t2, t3, t4⟩ := hW; go_simp; exact hK
                  refine anyU_quiet (a2 := ?au3_14) 14 rfl rfl rfl (by kernel_rfl) (by kernel_rfl) (by kernel_rfl) (by kernel_rfl) (by kernel_rfl) (by kernel_rfl) (fun _ _ _ _ h => h) HQ.out ?hu3_14 ?ku3_14
                  case hu3_14 => intro W hW K hK; obtain ⟨t2, t3, t4⟩ := hW; go_simp; exact hK
                  refine anyU_quiet (a2 := ?au3_15) 15 rfl rfl rfl (by kernel_rfl) (by kernel_rfl) (by kernel_rfl) (by kernel_rfl) (by kernel_rfl) (by kernel_rfl) (fun _ _ _ _ h => h) HQ.out ?hu3_15 ?ku3_15
                  case hu3_15 => intro W hW K hK; obtain ⟨t2, t3, t4⟩ := hW; go_simp; exact hK
                  refine anyU_quiet (a2 := ?au3_16) 16 rfl rfl rfl (by kernel_rfl) (by kernel_rfl) (by kernel_rfl) (by kernel_rfl) (by kernel_rfl) (by kernel_rfl) (fun _ _ _ _ h => h) HQ.out ?hu3_16 ?ku3_16
                  case hu3_16 => intro W hW K hK; obtain ⟨t2, t3, t4⟩ := hW; go_simp; exact hK
                  refine anyU_quiet (a2 := ?au3_17) 17 rfl rfl rfl (by kernel_rfl) (by kernel_rfl) (by kernel_rfl) (by kernel_rfl) (by kernel_rfl) (by kernel_rfl) (fun _ _ _ _ h => h) HQ.out ?hu3_17 ?ku3_17
                  case hu3_17 => intro W hW K hK; obtain ⟨t2, t3, t4⟩ := hW; go_simp; exact hK
                  refine anyU_only 18 rfl (by kernel_rfl) ?_
                  gi_wp2
                  refine And.intro (by first | exact HQ.out | exact .inr HQ.out) ?_
                  refine anyU_only 19 rfl (by kernel_rfl) ?_
                  gi_wp2
                  first | rw [HW9.out] | (have h9 := HW9.out; simp only [Bool.true_or, Bool.false_or] at h9; rw [h9])
                  refine And.intro (.inl (by kernel_rfl)) ?_
                  refine anyU_done (by kernel_rfl) ?_ _
                  clear q8 f8
                  go_wp2_with fail
                  go_roundw
                  case rel => exact ⟨j + 1 + 1, _, by omega, by go_num, HX9, HK9, HB9, HF9⟩
                  case measure => simp [intOf]; omega
                | false =>
                  refine anyU_quiet (a2 := ?au4_0) 0 rfl rfl rfl (by kernel_rfl) (by kernel_rfl) (by kernel_rfl) (by kernel_rfl) (by kernel_rfl) (by kernel_rfl) (fun _ _ _ _ h => h) HQ.out ?hu4_0 ?ku4_0
                  case hu4_0 => intro W hW K hK; obtain ⟨t2, t3, t4⟩ := hW; go_simp; exact hK
                  refine anyU_quiet (a2 := ?au4_1) 1 rfl rfl rfl (by kernel_rfl) (by kernel_rfl) (by kernel_rfl) (by kernel_rfl) (by kernel_rfl) (by kernel_rfl) (fun _ _ _ _ h => h) HQ.out ?hu4_1 ?ku4_1
                  case hu4_1 => intro W hW K hK; obtain ⟨t2, t3, t4⟩ := hW; go_simp; exact hK
                  refine anyU_quiet (a2 := ?au4_2) 2 rfl rfl rfl (by kernel_rfl) (by kernel_rfl) (by kernel_rfl) (by kernel_rfl) (by kernel_rfl) (by kernel_rfl) (fun _ _ _ _ h => h) HQ.out ?hu4_2 ?ku4_2
                  case hu4_2 => intro W hW K hK; obtain ⟨t2, t3, t4⟩ := hW; go_simp; exact hK
                  refine anyU_quiet (a2 := ?au4_3) 3 rfl rfl rfl (by kernel_rfl) (by kernel_rfl) (by kernel_rfl) (by kernel_rfl) (by kernel_rfl) (by kernel_rfl) (fun _ _ _ _ h => h) HQ.out ?hu4_3 ?ku4_3
                  case hu4_3 => intro W hW K hK; obtain ⟨t2, t3, t4⟩ := hW; go_simp; exact hK
                  refine anyU_quiet (a2 := ?au4_4) 4 rfl rfl rfl (by kernel_rfl) (by kernel_rfl) (by kernel_rfl) (by kernel_rfl) (by kernel_rfl) (by kernel_rfl) (fun _ _ _ _ h => h) HQ.out ?hu4_4 ?ku4_4
                  case hu4_4 => intro W hW K hK; obtain ⟨t2, t3, t4⟩ := hW; go_simp; exact hK
                  refine anyU_quiet (a2 := ?au4_5) 5 rfl rfl rfl (by kernel_rfl) (by kernel_rfl) (by kernel_rfl) (by kernel_rfl) (by kernel_rfl) (by kernel_rfl) (fun _ _ _ _ h => h) HQ.out ?hu4_5 ?ku4_5
                  case hu4_5 => intro W hW K hK; obtain ⟨t2, t3, t4⟩ := hW; go_simp; exact hK
                  refine anyU_quiet (a2 := ?au4_6) 6 rfl rfl rfl (by kernel_rfl) (by kernel_rfl) (by kernel_rfl) (by kernel_rfl) (by kernel_rfl) (by kernel_rfl) (fun _ _ _ _ h => h) HQ.out ?hu4_6 ?ku4_6
                  case hu4_6 => intro W hW K hK; obtain ⟨t2, t3, t4⟩ := hW; go_simp; exact hK
                  refine anyU_quiet (a2 := ?au4_7) 7 rfl rfl rfl (by kernel_rfl) (by kernel_rfl) (by kernel_rfl) (by kernel_rfl) (by kernel_rfl) (by kernel_rfl) (fun _ _ _ _ h => h) HQ.out ?hu4_7 ?ku4_7
                  case hu4_7 => intro W hW K hK; obtain ⟨t2, t3, t4⟩ := hW; go_simp; exact hK
                  refine anyU_quiet (a2 := ?au4_8) 8 rfl rfl rfl (by kernel_rfl) (by kernel_rfl) (by kernel_rfl) (by kernel_rfl) (by kernel_rfl) (by kernel_rfl) (fun _ _ _ _ h => h) HQ.out ?hu4_8 ?ku4_8
                  case hu4_8 => intro W hW K hK; obtain ⟨t2, t3, t4⟩ := hW; go_simp; exact hK
                  refine anyU_quiet (a2 := ?au4_9) 9 rfl rfl rfl (by kernel_rfl) (by kernel_rfl) (by kernel_rfl) (by kernel_rfl) (by kernel_rfl) (by kernel_rfl) (fun _ _ _ _ h => h) HQ.out ?hu4_9 ?ku4_9
                  case hu4_9 => intro W hW K hK; obtain ⟨t2, t3, t4⟩ := hW; go_simp; exact hK
                  refine anyU_quiet (a2 := ?au4_10) 10 rfl rfl rfl (by kernel_rfl) (by kernel_rfl) (by kernel_rfl) (by kernel_rfl) (by kernel_rfl) (by kernel_rfl) (fun _ _ _ _ h => h) HQ.out ?hu4_10 ?ku4_10
                  case hu4_10 => intro W hW K hK; obtain ⟨t2, t3, t4⟩ := hW; go_simp; exact hK
                  refine anyU_quiet (a2 := ?au4_11) 11 rfl rfl rfl (by kernel_rfl) (by kernel_rfl) (by kernel_rfl) (by kernel_rfl) (by kernel_rfl) (by kernel_rfl) (fun _ _ _ _ h => h) HQ.out ?hu4_11 ?ku4_11
                  case hu4_11 => intro W hW K hK; obtain ⟨t2, t3, t4⟩ := hW; go_simp; exact hK
                  refine anyU_quiet (a2 := ?au4_12) 12 rfl rfl rfl (by kernel_rfl) (by kernel_rfl) (by kernel_rfl) (by kernel_rfl) (by kernel_rfl) (by kernel_rfl) (fun _ _ _ _ h => h) HQ.out ?hu4_12 ?ku4_12
                  case hu4_12 => intro W hW K hK; obtain ⟨t2, t3, t4⟩ := hW; go_simp; exact hK
                  refine anyU_quiet (a2 := ?au4_13) 13 rfl rfl rfl (by kernel_rfl) (by kernel_rfl) (by kernel_rfl) (by kernel_rfl) (by kernel_rfl) (by kernel_rfl) (fun _ _ _ _ h => h) HQ.out ?hu4_13 ?ku4_13
                  case hu4_13 => intro W hW K hK; obtain ⟨t2, t3, t4⟩ := hW; go_simp; exact hK
                  refine anyU_quiet (a2 := ?au4_14) 14 rfl rfl rfl (by kernel_rfl) (by kernel_rfl) (by kernel_rfl) (by kernel_rfl) (by kernel_rfl) (by kernel_rfl) (fun _ _ _ _ h => h) HQ.out ?hu4_14 ?ku4_14
                  case hu4_14 => intro W hW K hK; obtain ⟨t2, t3, t4⟩ := hW; go_simp; exact hK
                  refine anyU_quiet (a2 := ?au4_15) 15 rfl rfl rfl (by kernel_rfl) (by kernel_rfl) (by kernel_rfl) (by kernel_rfl) (by kernel_rfl) (by kernel_rfl) (fun _ _ _ _ h => h) HQ.out ?hu4_15 ?ku4_15
                  case hu4_15 => intro W hW K hK; obtain ⟨t2, t3, t4⟩ := hW; go_simp; exact hK
                  refine anyU_quiet (a2 := ?au4_16) 16 rfl rfl rfl (by kernel_rfl) (by kernel_rfl) (by kernel_rfl) (by kernel_rfl) (by kernel_rfl) (by kernel_rfl) (fun _ _ _ _ h => h) HQ.out ?hu4_16 ?ku4_16
                  case hu4_16 => intro W hW K hK; obtain ⟨t2, t3, t4⟩ := hW; go_simp; exact hK
                  refine anyU_quiet (a2 := ?au4_17) 17 rfl rfl rfl (by kernel_rfl) (by kernel_rfl) (by kernel_rfl) (by kernel_rfl) (by kernel_rfl) (by kernel_rfl) (fun _ _ _ _ h => h) HQ.out ?hu4_17 ?ku4_17
                  case hu4_17 => intro W hW K hK; obtain ⟨t2, t3, t4⟩ := hW; go_simp; exact hK
                  refine anyU_only 18 rfl (by kernel_rfl) ?_
                  gi_wp2
                  refine And.intro (by first | exact HQ.out | exact .inr HQ.out) ?_
                  refine anyU_only 19 rfl (by kernel_rfl) ?_
                  gi_wp2
                  first | rw [HW9.out] | (have h9 := HW9.out; simp only [Bool.true_or, Bool.false_or] at h9; rw [h9])
                  refine And.intro (.inl (by kernel_rfl)) ?_
                  refine anyU_done (by kernel_rfl) ?_ _
                  clear q8 f8
                  go_wp2_with fail
                  go_roundw
                  case rel => exact ⟨j + 1 + 1, _, by omega, by go_num, HX9, HK9, HB9, HF9⟩
                  case measure => simp [intOf]; omega
            case neg =>
              have hkn : k = nl := by omega
              have HF7 : Hid (∀ j : Nat, fs[j]? = some true ↔ (j : Int) ∈ entries c ∨ ∃ k, k < q + 1 ∧ Rch c k ∧ (j : Int) ∈ nextL c k) := Lib.hid (fun j => by
                rw [HF.out j, hkn, ← Hnl.out, List.take_length]
                constructor
                · rintro (h1 | ⟨k, h1, h2, h3⟩ | ⟨h1, h2⟩)
                  · exact .inl h1
                  · exact .inr ⟨k, by omega, h2, h3⟩
                  · exact .inr ⟨q, by omega, h1, h2⟩
                · rintro (h1 | ⟨k, h1, h2, h3⟩)
                  · exact .inl h1
                  · by_cases e : k = q
                    · subst e; exact .inr (.inr ⟨h2, h3⟩)
                    · exact .inr (.inl ⟨k, by omega, h2, h3⟩))
              subst hkn
              clear HF hk hlk
              go_wp2_with fail
              go_roundw
              case rel => exact ⟨q + 1, _, by omega, by go_num, HX, HB, HF7⟩
              case measure => simp [intOf]; omega
        case neg =>
          have hqn : q = ni := by omega
          have HF7 : Hid (∀ j : Nat, fs[j]? = bs[j]?) := Lib.hid (fun j => by
            by_cases hj : j < ni
            · obtain ⟨b1, h1⟩ : ∃ b, fs[j]? = some b := ⟨_, List.getElem?_eq_getElem (by rw [HB.out.blk.2]; exact hj)⟩
              obtain ⟨b2, h2⟩ : ∃ b, bs[j]? = some b := ⟨_, List.getElem?_eq_getElem (by rw [HB4.out.blk.2]; exact hj)⟩
              have hf := HF.out j
              have hr := HBs.out j
              rw [rch_iff, ← iff_congr Iff.rfl Iff.rfl] at hr
              have hb : (b1 = true) ↔ (b2 = true) := by
                rw [h1] at hf; rw [h2] at hr
                simp only [Option.some.injEq] at hf hr
                rw [hf, hr, hqn]
                constructor
                · rintro (h3 | ⟨k, h3, h4, h5⟩)
                  · exact .inl h3
                  · exact .inr ⟨k, h4, h5⟩
                · rintro (h3 | ⟨k, h4, h5⟩)
                  · exact .inl h3
                  · refine .inr ⟨k, ?_, h4, h5⟩
                    have h6 := (HBs.out k).2 h4
                    have := (List.getElem?_eq_some_iff.1 h6).1
                    rw [HB4.out.blk.2] at this; exact this
              rw [h1, h2]
              cases b1 <;> cases b2 <;> simp_all
            · rw [List.getElem?_eq_none (by rw [HB.out.blk.2]; omega), List.getElem?_eq_none (by rw [HB4.out.blk.2]; omega)])
          subst hqn
          clear HF hq hlt
          have HOut : Hid (∀ V, Ex w4 V → OwnB V w3.heap.size g q bs) := Lib.hid (fun V hV => HB4.out.keep hV id)
          have HKeep : Hid (Ex wr wr) := Lib.hid (Keeps.refl _ _)
          obtain ⟨Wl, hWl⟩ : ∃ W, wr = W := ⟨_, rfl⟩
          rw [hWl] at HX HB HKeep ⊢
          clear hWl
          go_wp2_with fail
          go_loopw [13] (fun s V => ∃ k : Nat, k ≤ q ∧ s = .int .i64 k ∧ Hid (Ex Wl V)) (fun s V => q - (intOf s).toNat)
          case atStart => exact ⟨0, Nat.zero_le _, rfl, Lib.hid (Keeps.refl _ _)⟩
          case round =>
            obtain ⟨k, hk, rfl, HXl⟩ := hrel
            by_cases hlk : k < q
            case pos =>
              obtain ⟨b2, h2⟩ : ∃ b, bs[k]? = some b := ⟨_, List.getElem?_eq_getElem (by rw [HB4.out.blk.2]; exact hlk)⟩
              have hz1 := (HOut.out wr (HX.out.trans HXl.out)).at h2
              have hz2 := (HB.out.keep HXl.out id).at (a := k) (b := b2) (by rw [HF7.out k]; exact h2)
              have s1 : ((k : Int) < q) := by omega
              have HXd : Hid (Ex Wl wr.drew) := Lib.hid (HXl.out.drew)
              clear h2
              go_upto_region 29 with fail
              cases b2 with
              | true =>
                go_big_region
                go_wp2_with fail
                exact ⟨⟨k + 1, by omega, by go_num, HXd⟩, by simp [intOf]; omega⟩
              | false =>
                go_big_region
                go_wp2_with fail
                exact ⟨⟨k + 1, by omega, by go_num, HXd⟩, by simp [intOf]; omega⟩
            case neg =>
              have hkn : k = q := by omega
              subst hkn
              have HXe := Lib.hid ((HX4.out.trans HX.out).trans HXl.out)
              go_wp2_with fail
              refine (HSan _ (HX1.out.trans HXe.out)).out.mono ?_
              rintro e ws ⟨rfl, hxs⟩
              have HXs := Lib.hid ((HX1.out.trans HXe.out).trans hxs)
              clear hxs
              go_wp2_with fail
              go_ret
              exact ⟨rfl, HXs.out⟩
end Go.Proofs.YtlaepkmnbbgbcaaGreatDoor
