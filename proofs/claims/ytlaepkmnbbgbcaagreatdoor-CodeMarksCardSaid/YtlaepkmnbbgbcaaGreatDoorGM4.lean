/- What was reached is reached behind Strip. Reached, walked. Origins. Prefixes, in plain Lean: offsets grow with the cells ahead; chains are beginnings of each other; Origins in two parts. -/
import Derived.Test.YtlaepkmnbbgbcaaGreatDoorGM3
import Derived.OwnWalk
import Derived.WalkSmall
import Derived.Test.YtlaepkmnbbgbcaaGreatDoorGM2
/- What was reached is reached behind Strip. -/
namespace Go.Proofs.YtlaepkmnbbgbcaaGreatDoor
open Go.RowKit Go.Instr
set_option linter.unusedVariables false
set_option linter.unusedSimpArgs false

def tnC (c : Co) (i : Nat) : Nat := ((c.instrs.take i).filter notMark).length
theorem filter_at {α : Type} (p : α → Bool) (l : List α) {j : Nat} {x : α} (hx : l[j]? = some x) (hp : p x = true) : (l.filter p)[((l.take j).filter p).length]? = some x := by
  have hlt := (List.getElem?_eq_some_iff.1 hx).1
  have hd : l.drop j = x :: l.drop (j + 1) := by
    rw [List.drop_eq_getElem_cons hlt]; congr 1; exact (List.getElem?_eq_some_iff.1 hx).2
  have h1 : l.filter p = (l.take j).filter p ++ (x :: l.drop (j + 1)).filter p := by
    rw [← hd, ← List.filter_append, List.take_append_drop]
  rw [h1, List.getElem?_append_right (Nat.le_refl _), Nat.sub_self, List.filter_cons, if_pos hp]; rfl
theorem tn_succ {c : Co} {j : Nat} {x : Ins} (hx : c.instrs[j]? = some x) : tnC c (j + 1) = tnC c j + if notMark x then 1 else 0 := by
  unfold tnC
  rw [filt_take c hx, List.length_append]
  split <;> simp
theorem moved_tn {c : Co} {i : Nat} (hi : i < c.instrs.length) : movedC c (i : Nat) = (tnC c i : Nat) := moved_nat hi
theorem strip_at {c : Co} {j : Nat} {x : Ins} (hx : c.instrs[j]? = some x) (hm : notMark x = true) : (stripC c).instrs[tnC c j]? = some (moveI c x) := by
  show (stripI c)[tnC c j]? = _
  unfold stripI
  rw [List.getElem?_map, show (c.instrs.filter notMark)[tnC c j]? = some x from filter_at notMark c.instrs hx hm]; rfl
theorem rch_lt {c : Co} (hg : Good c) {i : Nat} (h : Rch c i) : i < c.instrs.length := by
  induction h with
  | entry h => obtain ⟨j, e, hj⟩ := entries_ok hg h; omega
  | step _ h ih => obtain ⟨j, e, hj⟩ := nextL_ok hg ih h; omega
theorem mem_entries {c : Co} {n : Int} : n ∈ entries c ↔ n ∈ entL c ∧ 0 ≤ n := by
  unfold entries
  rw [mem_uniq, List.mem_filter]; simp
theorem strip_rch {c : Co} (hg : Good c) (hl : lastOp c ≠ 53) {i : Nat} (h : Rch c i) : Rch (stripC c) (tnC c i) := by
  induction h with
  | @entry i h =>
    refine .entry ?_
    have hlt : i < c.instrs.length := by obtain ⟨j, e, hj⟩ := entries_ok hg h; omega
    rw [mem_entries] at h ⊢
    refine ⟨?_, by omega⟩
    have h1 := h.1
    unfold entL at h1 ⊢
    simp only [List.cons_append, List.mem_cons, List.mem_append, List.mem_flatMap] at h1 ⊢
    rcases h1 with h1 | ⟨d, hd, hx⟩ | ⟨l, hll, hx⟩
    · left
      have : i = 0 := by omega
      rw [this]; rfl
    · right; left
      refine ⟨stripD c d, List.mem_map.2 ⟨d, hd, rfl⟩, ?_⟩
      unfold De.places at hx ⊢
      simp only [List.mem_cons, List.not_mem_nil, or_false] at hx ⊢
      unfold stripD
      simp only
      rcases hx with e | e | e | e
      · left; rw [← e, moved_tn hlt]
      · right; left; rw [← e, moved_tn hlt]
      · right; right; left; rw [← e, moved_tn hlt]
      · right; right; right; rw [← e, moved_tn hlt]
    · right; right
      refine ⟨stripL c l, List.mem_map.2 ⟨l, hll, rfl⟩, ?_⟩
      simp only [List.mem_cons, List.not_mem_nil, or_false] at hx ⊢
      unfold stripL
      simp only
      rcases hx with e | e
      · left; rw [← e, moved_tn hlt]
      · right; rw [← e, moved_tn hlt]
  | @step j i hj h ih =>
    have hjl := rch_lt hg hj
    obtain ⟨i', e', hil⟩ := nextL_ok hg hjl h
    obtain rfl : i = i' := by omega
    obtain ⟨x, hx⟩ : ∃ x, c.instrs[j]? = some x := ⟨_, List.getElem?_eq_getElem hjl⟩
    have hxd : c.instrs.getD j default = x := by rw [List.getD_eq_getElem?_getD, hx]; rfl
    have hmem : x ∈ c.instrs := List.mem_of_getElem? hx
    have h1 := (nextL_mem.1 h).1
    rw [hxd] at h1
    by_cases hm : x.op = 53
    · have hn : (i : Int) = j + 1 := by
        unfold nextRaw stops at h1
        simp [hm] at h1
        omega
      have hi : i = j + 1 := by omega
      have : tnC c i = tnC c j := by rw [hi, tn_succ hx]; unfold notMark; simp [hm]
      rw [this]; exact ih
    · have hnm : notMark x = true := by unfold notMark; simpa using hm
      refine .step ih ?_
      rw [nextL_mem]
      have hat := strip_at hx hnm
      have hgd : (stripC c).instrs.getD (tnC c j) default = moveI c x := by rw [List.getD_eq_getElem?_getD, hat]; rfl
      rw [hgd, strip_len]
      refine ⟨?_, by have := toN_lt hl hil; unfold tnC; omega⟩
      have hop : (moveI c x).op = x.op := by unfold moveI; split <;> rfl
      have hsucc : i = j + 1 → (tnC c i : Int) = (tnC c j : Int) + 1 := fun e => by rw [e, tn_succ hx, hnm]; simp
      unfold nextRaw at h1 ⊢
      rw [hop]
      by_cases hs : stops x.op = true
      · rw [if_pos hs] at h1; simp at h1
      · rw [if_neg hs] at h1 ⊢
        by_cases h42 : x.op = 42
        · rw [if_pos h42] at h1 ⊢
          have ha : (moveI c x).a = movedC c x.a := by unfold moveI; rw [if_pos (.inl h42)]
          simp only [List.mem_cons, List.not_mem_nil, or_false] at h1 ⊢
          rw [ha, ← h1, moved_tn hil]
        · rw [if_neg h42] at h1 ⊢
          by_cases h43 : x.op = 43
          · rw [if_pos h43] at h1 ⊢
            have ha : (moveI c x).a = movedC c x.a := by unfold moveI; rw [if_pos (.inr h43)]
            simp only [List.mem_cons, List.not_mem_nil, or_false] at h1 ⊢
            rcases h1 with h1 | h1
            · left; rw [ha, ← h1, moved_tn hil]
            · right; exact hsucc (by omega)
          · rw [if_neg h43] at h1 ⊢
            simp only [List.mem_cons, List.not_mem_nil, or_false] at h1 ⊢
            exact hsucc (by omega)
end Go.Proofs.YtlaepkmnbbgbcaaGreatDoor
/- Reached, walked. -/
namespace Go.Proofs.YtlaepkmnbbgbcaaGreatDoor
open Go.RowKit Go.Instr Go.Sort
set_option linter.unusedVariables false
set_option linter.unusedSimpArgs false
attribute [local go_sem] Oper.semAt_some

theorem info_boolS : (Tryz.prog.info? 4).map (fun i => (i.zero, i.size, i.bytes)) = some (some (.bool false), 1, 1) := by kernel_rfl
/-- A row of bools of the call's own. -/
def OwnB (w : World) (base g n : Nat) (bs : List Bool) : Prop := w.ownsRow base 4 1 (.slice (some ⟨g, 0, none⟩) n n) n (bs.map Value.bool)
theorem OwnB.keep {S : Nat → Prop} {w w' : World} {base g n : Nat} {bs : List Bool} (h : OwnB w base g n bs) (hk : Keeps S w w') (hn : ¬ S g) : OwnB w' base g n bs := by
  refine ⟨h.1, ?_⟩
  rcases h.2 with ⟨e, _⟩ | ⟨g', cap, cur, e, h1, h2, r⟩
  · cases e
  · simp only [Value.slice.injEq, Option.some.injEq, Addr.mk.injEq, and_true, true_and] at e
    obtain ⟨rfl, rfl⟩ := e
    exact .inr ⟨g, n, cur, rfl, h1, hk.obj h2 hn, r⟩
theorem OwnB.blk {w : World} {base g n : Nat} {bs : List Bool} (h : OwnB w base g n bs) : Blk w g (bs.map Value.bool).toArray 4 ∧ bs.length = n := by
  have hl := h.1
  rw [List.length_map, Nat.mul_one] at hl
  refine ⟨?_, hl⟩
  rcases h.2 with ⟨e, _⟩ | ⟨g', cap, cur, e, h1, h2, h3, h4, h5, h6⟩
  · cases e
  · simp only [Value.slice.injEq, Option.some.injEq, Addr.mk.injEq, and_true, true_and] at e
    obtain ⟨rfl, rfl⟩ := e
    rw [Nat.mul_one] at h5 h6
    have : cur.toList = bs.map Value.bool := by rw [← h6]; exact (List.take_of_length_le (by rw [Array.length_toList]; omega)).symm
    unfold Blk
    rw [h2, ← this]
theorem OwnB.set {w : World} {base g n : Nat} {bs : List Bool} (h : OwnB w base g n bs) (a : Nat) : OwnB (w.setCell ⟨g, a, none⟩ (.bool true)) base g n (bs.set a true) := by
  have := (World.ownsRow.stored h a (.bool true)).1
  unfold OwnB
  rw [List.map_set]; exact this
theorem own_blk {w : World} {base : Nat} {v : Value} {l : List Int} (h : OwnI w base v l) {b : Nat} (hb : v.ownBlock = some b) {g n base' : Nat} {bs : List Bool} (hB : OwnB w base' g n bs) : b ≠ g := by
  obtain ⟨cur, hc⟩ := own_type h hb
  exact Blk.ne (c := cur) hc hB.blk.1 (by decide)
/-- How many cells of a block are false. -/
def falseIn (w : World) (g : Nat) : Nat := match w.heap[g]? with
  | some (.cells cs _ _) => (cs.toList.filter fun v => match v with | .bool false => true | _ => false).length
  | _ => 0
theorem falseIn_of {w : World} {base g n : Nat} {bs : List Bool} (h : OwnB w base g n bs) : falseIn w g = falses bs := by
  have hb := h.blk.1
  unfold Blk at hb
  unfold falseIn
  rw [hb]
  show ((bs.map Value.bool).filter _).length = _
  unfold falses
  clear hb h
  induction bs with
  | nil => rfl
  | cons b r ih =>
    cases b
    · rw [List.map_cons, List.filter_cons, List.count_cons]; simp only [if_true]; rw [List.length_cons, ih]; rfl
    · rw [List.map_cons, List.filter_cons, List.count_cons]; simp only [Bool.false_eq_true, if_false]; rw [ih]; rfl
def lenV : Value → Nat
  | .slice _ n _ => n
  | _ => 0
/-- What Reached answers. -/
def ReachR (w : World) (c : Co) (e : Ending) (w' : World) : Prop :=
  if (chk c).1 = 0 then ∃ g bs, e = .returned (.tuple #[.slice (some ⟨g, 0, none⟩) c.instrs.length c.instrs.length, .int .i64 0]) ∧ w.heap.size ≤ g ∧ OwnB w' w.heap.size g c.instrs.length bs ∧ (∀ i : Nat, bs[i]? = some true ↔ Rch c i) ∧ Ex w w'
  else e = .returned (.tuple #[.slice none 0 0, .int .i64 1]) ∧ Ex w w'
theorem OwnI.pop {w : World} {base h n cap : Nat} {td : List Int} {x : Int} (ho : OwnI w base (.slice (some ⟨h, 0, none⟩) (n + 1) cap) (td ++ [x])) (hl : td.length = n) : OwnI w base (.slice (some ⟨h, 0, none⟩) n cap) td := by
  unfold OwnI at ho ⊢
  rw [List.map_append, List.length_append, hl] at ho
  rw [hl]
  exact ownsRow_pop (by rw [List.length_map, hl, Nat.mul_one]) ho
theorem entL_len (c : Co) : (entL c).length = 1 + 4 * c.descs.length + 2 * c.labels.length := by
  unfold entL
  have h1 : ∀ l : List De, (l.flatMap De.places).length = 4 * l.length := by
    intro l; induction l with
    | nil => rfl
    | cons y r ih => rw [List.flatMap_cons, List.length_append, ih, List.length_cons]; show 4 + _ = _; omega
  rw [List.length_append, List.length_cons, h1, pairs_len]; omega
theorem entries_len {c : Co} (h : Good c) : (entries c).length ≤ 20000 := by
  have h1 : (entries c).length ≤ (entL c).length := Nat.le_trans (uniq_len _) (List.length_filter_le _ _)
  rw [entL_len] at h1
  have := h.d2; have := h.l2; omega
set_option maxRecDepth 100000 in
set_option maxHeartbeats 8000000 in
theorem Reached_any {w : World} {dv lv tv rv iv : Value} {c : Co} {xs : List DeV} (h : RdCo w dv lv tv rv iv c xs) (hb : Big c) :
    Calls Tryz.prog 38 #[codeV dv lv tv rv iv] w (ReachR w c) := by
  obtain ⟨W1, hW1⟩ : ∃ W1, w.alloc (.cells #[dv, lv, tv, rv, iv] 28) = W1 := ⟨_, rfl⟩
  obtain ⟨b0, hb0⟩ : ∃ b0, w.heap.size = b0 := ⟨_, rfl⟩
  have hX1 : Ex w W1 := by rw [← hW1]; exact (Keeps.refl _ w).alloc _
  have hB0 : Blk W1 b0 #[dv, lv, tv, rv, iv] 28 := by rw [← hW1, ← hb0]; exact Blk.new w _ _
  have hs1 : W1.heap.size = b0 + 1 := by rw [← hW1, ← hb0, World.size_alloc]
  have hEn := Entries_any (h.ext hX1) hb
  have HNx : Hid (∀ (V : World) (a : Nat), Ex W1 V → a < c.instrs.length → Calls Tryz.prog 92 #[codeV dv lv tv rv iv, .int .i64 a] V fun e w' => ∃ v, e = .returned v ∧ OwnI w' V.heap.size v (nextL c a) ∧ Ex V w') := Lib.hid (fun V a hV ha => next_any ((h.ext hX1).ext hV) hb.i ha)
  obtain ⟨da, dc, rfl, -⟩ := id h.ds
  obtain ⟨la, lc, rfl, -⟩ := id h.ls
  obtain ⟨ta, tc, rfl, -⟩ := id h.ts
  obtain ⟨ra, rc, rfl, -⟩ := id h.rs
  obtain ⟨ia, ic, rfl, -⟩ := id h.is
  obtain ⟨ni, hni⟩ : ∃ n, c.instrs.length = n := ⟨_, rfl⟩
  have hn6 : ni ≤ 1000000 := by rw [← hni]; exact hb.i
  rw [hni] at hEn hB0 hW1 HNx ⊢
  have HF0 : ∀ V, Ex W1 V → Hid (V.cell? ⟨b0, 0, none⟩ = some (.slice da xs.length dc) ∧ V.cell? ⟨b0, 1, none⟩ = some (.slice la c.labels.length lc) ∧ V.cell? ⟨b0, 2, none⟩ = some (.slice ta c.texts.length tc) ∧ V.cell? ⟨b0, 3, none⟩ = some (.slice ra c.reals.length rc) ∧ V.cell? ⟨b0, 4, none⟩ = some (.slice ia ni ic)) := fun V hV =>
    ⟨((hV.blk hB0 id).cell 0).trans rfl, ((hV.blk hB0 id).cell 1).trans rfl, ((hV.blk hB0 id).cell 2).trans rfl, ((hV.blk hB0 id).cell 3).trans rfl, ((hV.blk hB0 id).cell 4).trans rfl⟩
  unfold codeV at hEn HNx ⊢
  have HX1 := Lib.hid hX1; have HW1 := Lib.hid hW1; have Hb0 := Lib.hid hb0; have HEn := Lib.hid hEn; have Hni := Lib.hid hni; have Hs1 := Lib.hid hs1; have HB0 := Lib.hid hB0
  clear h hX1 hB0 hW1 hb0 hEn hb hni hs1
  generalize hM : ReachR w c = M
  have HM := Lib.hid hM
  clear hM
  obtain ⟨x0, x1, x2, x3, x4⟩ := (HF0 W1 (Keeps.refl _ _)).out
  go_enter Tryz.func38, Tryz.ntmps38
  go_upto_region 1 with fail
  rw [HW1.out]
  try rw [Hb0.out]
  go_wp2_with fail
  refine HEn.out.mono ?_
  intro e w2 he
  unfold EntR at he
  clear x0 x1 x2 x3 x4 HEn
  by_cases hg : (chk c).1 = 0
  case neg =>
    rw [if_neg hg] at he
    obtain ⟨rfl, hx⟩ := he
    have HX := Lib.hid (HX1.out.trans hx)
    have HG := Lib.hid hg
    clear hx hg
    go_wp2_with fail
    rw [← HM.out]
    unfold ReachR
    rw [if_neg HG.out]
    exact ⟨rfl, HX.out⟩
  rw [if_pos hg] at he
  obtain ⟨v2, rfl, ho2, hx2⟩ := he
  have HG := Lib.hid hg
  have HGood := Lib.hid ((good_iff c).1 hg)
  rw [Hs1.out] at ho2
  obtain ⟨ea, ec, he2⟩ := own_slice ho2
  subst he2
  obtain ⟨el, hel⟩ : ∃ n, (entries c).length = n := ⟨_, rfl⟩
  rw [hel] at ho2 ⊢
  have HX2 := Lib.hid hx2; have HO2 := Lib.hid ho2; have Hel := Lib.hid hel
  clear hx2 ho2 hg hel
  obtain ⟨x0, x1, x2, x3, x4⟩ := (HF0 w2 HX2.out).out
  obtain ⟨i0, hi, hz0, hz1, hz2⟩ := info_split info_boolS
  go_upto_region 4 with fail
  go_wp2_with (at_make; refine (fun h => h trivial : (True → _) → _) ?_)
  intro _
  refine wpList_make_full _ rfl _ _ 70 rfl (b0 + 1) 4 i0 _ 1 Tryz.underlying70 hi hz0 hz1 .i64 .i64 ni ni ni rfl rfl rfl rfl (by rw [hz2]; omega) (by unfold maxLen; omega) (by have := HX2.out.size; rw [Hs1.out] at this; exact this) ?_
  intro w3 ho3 hg3
  obtain ⟨g, hgs⟩ : ∃ g, w2.heap.size = g := ⟨_, rfl⟩
  have hrep : (madeCells (Value.bool false).cells (ni * 1)).toList = (List.replicate ni false).map Value.bool := by
    rw [List.map_replicate, Nat.mul_one]; exact toList_madeCells_one _ _
  rw [hrep, hgs] at ho3
  rw [hgs]
  have hx3 : Ex w2 w3 := (Keeps.refl _ w2).grown hg3 (fun k hk => by cases hk)
  have hg1 : b0 + 1 ≤ g := by rw [← hgs, ← Hs1.out]; exact HX2.out.size
  have HX3 := Lib.hid (HX2.out.trans hx3)
  have HO3 : Hid (OwnI w3 (b0 + 1) (.slice ea el ec) (entries c)) := Lib.hid (HO2.out.kept hx3 fun _ _ => id)
  have HB3 : Hid (OwnB w3 (b0 + 1) g ni (List.replicate ni false)) := Lib.hid ho3
  have HI3 : Hid (RInv c (entries c) (List.replicate ni false)) := Lib.hid (by have := RInv.begin HGood.out; rw [Hni.out] at this; exact this)
  have HL3 : Hid ((entries c).length + 3 * falses (List.replicate ni false) ≤ 20000 + 3 * ni) := Lib.hid (by
    have h1 := entries_len HGood.out
    have h2 : falses (List.replicate ni false) = ni := by unfold falses; rw [List.count_replicate_self]
    rw [h2]; omega)
  clear ho3 hg3 hrep hgs hx3 HO2 x0 x1 x2 x3 x4 hi
  go_wp2_with fail
  go_loopw [4] (fun v wr => ∃ (td : List Int) (bs : List Bool), Hid (RInv c td bs) ∧ Hid (Ex W1 wr) ∧ Hid (OwnI wr (b0 + 1) v td) ∧ Hid (OwnB wr (b0 + 1) g ni bs) ∧ Hid (td.length + 3 * falses bs ≤ 20000 + 3 * ni)) (fun v wr => lenV v + 3 * falseIn wr g)
  case atStart => exact ⟨_, _, HI3, HX3, HO3, HB3, HL3⟩
  case round =>
    obtain ⟨td, bs, HI, HX, HO, HB, HL⟩ := hrel
    obtain ⟨x0, x1, x2, x3, x4⟩ := (HF0 wr HX.out).out
    rcases List.eq_nil_or_concat td with rfl | ⟨td', x, rfl⟩
    · obtain ⟨a1, c1, hv⟩ := own_slice HO.out
      simp only [List.length_nil] at hv
      subst hv
      go_wp2_with fail
      rw [← HM.out]
      unfold ReachR
      rw [if_pos HG.out, Hni.out]
      exact ⟨g, bs, rfl, by rw [Hb0.out]; omega, by
        have := HB.out
        unfold OwnB at this ⊢
        rw [Hb0.out]; exact row_base this (by omega), fun i => RInv.done HI.out i, HX1.out.trans HX.out⟩
    · rw [List.concat_eq_append] at HI HO HL
      obtain ⟨n, hn⟩ : ∃ n, td'.length = n := ⟨_, rfl⟩
      obtain ⟨b, cap, hv, hbb, hblt, hcap, -⟩ : ∃ (b cap : Nat), u4 = .slice (some ⟨b, 0, none⟩) (n + 1) cap ∧ b0 + 1 ≤ b ∧ b < wr.heap.size ∧ n + 1 ≤ cap ∧ True := by
        rcases HO.out.form with ⟨-, h2⟩ | ⟨b, cap, h1, h2, h3, h4, h5, -⟩
        · simp at h2
        · exact ⟨b, cap, by rw [h1, List.length_append, hn]; rfl, h2, h3, by rw [List.length_append, hn] at h4; exact h4, trivial⟩
      subst hv
      obtain ⟨a, ha, halt, -⟩ := HI.out.tdok x (by simp)
      subst ha
      rw [Hni.out] at halt
      have hl9 := HL.out
      rw [List.length_append, hn] at hl9
      have hf9 : falses bs ≤ ni := by rw [← HB.out.blk.2]; exact List.count_le_length ..
      have hz : wr.cell? ⟨b, n, none⟩ = some (.int .i64 (a : Nat)) := by
        have hrd : RdL encI wr (.slice (some ⟨b, 0, none⟩) (td' ++ [(a : Int)]).length cap) (td' ++ [(a : Int)]) := by
          have h9 := HO.out; unfold OwnI at h9; rw [← encI_flat] at h9
          have := own_rd encI_len h9
          rw [List.length_append, hn]; exact this
        have h8 := hrd.int_at (k := n) (by rw [List.length_append, hn]; simp)
        have e8 : (⟨b, 0, none⟩ : Addr).add n = ⟨b, n, none⟩ := by unfold Addr.add; split <;> simp_all
        rw [e8] at h8
        rw [h8]
        congr 2
        rw [List.getD_eq_getElem?_getD, List.getElem?_append_right (by omega), hn]; simp
      have hA : (⟨b, 0, none⟩ : Addr).add n = ⟨b, n, none⟩ := by unfold Addr.add; split <;> simp_all
      have hA2 : (⟨g, 0, none⟩ : Addr).add a = ⟨g, a, none⟩ := by unfold Addr.add; split <;> simp_all
      obtain ⟨bv, hbv⟩ : ∃ bv, bs[a]? = some bv := ⟨_, List.getElem?_eq_getElem (by rw [HB.out.blk.2]; exact halt)⟩
      have hzb : wr.cell? ⟨g, a, none⟩ = some (.bool bv) := by
        rw [HB.out.blk.1.cell a]; simp [hbv]
      have hfb : wr.frozen? ⟨g, a, none⟩ = false := HB.out.blk.1.frozen a
      have e1 : IntKind.i64.wrap (n : Int) = (n : Int) := by simp [IntKind.wrap_i64]; omega
      have e2 : IntKind.i64.wrap ((n : Int) + 1 - 1) = (n : Int) := by simp [IntKind.wrap_i64]; omega
      have e3 : (n : Int) < (n : Int) + 1 := by omega
      have e4 : (n : Int) ≤ cap := by omega
      have e5 : (0 : Int) < (n : Int) + 1 := by omega
      have e6 : ((a : Int) < ni) := by omega
      have HPop := Lib.hid (OwnI.pop HO.out hn)
      have Hn := Lib.hid hn; have Hbv := Lib.hid hbv; have Halt := Lib.hid halt; have Hl9 := Lib.hid hl9; have Hf9 := Lib.hid hf9
      clear hn hbv halt hl9 hf9 hcap
      cases bv with
      | true =>
        have HI2 := Lib.hid (RInv.seen HI.out Hbv.out)
        have HL2 : Hid (td'.length + 3 * falses bs ≤ 20000 + 3 * ni) := Lib.hid (by rw [Hn.out]; have := Hl9.out; simp at this; omega)
        go_wp2_with fail
        exact ⟨⟨td', bs, HI2, HX, HPop, HB, HL2⟩, by show n + 3 * falseIn wr g < n + 1 + 3 * falseIn wr g; omega⟩
      | false =>
        have HI2 := Lib.hid (RInv.mark HGood.out HI.out)
        obtain ⟨W4, hW4⟩ : ∃ W4, wr.setCell ⟨g, a, none⟩ (.bool true) = W4 := ⟨_, rfl⟩
        have hX4 : Ex W1 W4 := by rw [← hW4]; exact HX.out.setCell (.inr (by rw [Hs1.out]; exact hg1)) _
        have hB4 : OwnB W4 (b0 + 1) g ni (bs.set a true) := by rw [← hW4]; exact HB.out.set a
        have hbg : b ≠ g := own_blk HPop.out rfl HB.out
        have hO4 : OwnI W4 (b0 + 1) (.slice (some ⟨b, 0, none⟩) n cap) td' := by
          rw [← hW4]
          exact own_far HPop.out (fun k hk => by
            have : b = k := by injection hk
            rw [← this]; exact hbg) _
        have HX4 := Lib.hid hX4; have HB4 := Lib.hid hB4; have HO4 := Lib.hid hO4; have HW4 := Lib.hid hW4
        have HNx4 := Lib.hid (HNx.out W4 a hX4 (by have := Halt.out; exact this))
        clear hX4 hB4 hO4 hW4 hbg
        go_upto_region 10 with fail
        rw [HW4.out]
        clear x0 x1 x2 x3 x4 hz hzb hfb e1 e2 e3 e4 e5 e6 hA hA2
        obtain ⟨x0, x1, x2, x3, x4⟩ := (HF0 W4 HX4.out).out
        go_wp2_with fail
        refine HNx4.out.mono ?_
        rintro e w5 ⟨v5, rfl, ho5, hx5⟩
        have hr5 : RdL encI w5 v5 (nextL c a) := by have h9 := ho5; unfold OwnI at h9; rw [← encI_flat] at h9; exact own_rd encI_len h9
        obtain ⟨a5, n5, c5, hv5⟩ : ∃ a n c, v5 = .slice a n c := by obtain ⟨a, c, h, -⟩ := hr5; exact ⟨_, _, _, h⟩
        subst hv5
        have HX5 := Lib.hid (HX4.out.trans hx5)
        have HO5 : Hid (OwnI w5 (b0 + 1) (.slice (some ⟨b, 0, none⟩) n cap) td') := Lib.hid (HO4.out.kept hx5 fun _ _ => id)
        have HB5 := Lib.hid (HB4.out.keep hx5 id)
        have HR5 := Lib.hid hr5
        clear ho5 hx5 hr5 x0 x1 x2 x3 x4
        go_wp2_with (at_builtin; refine (fun h => h trivial : (True → _) → _) ?_)
        intro _
        refine wpList_appI rfl _ _ rfl (b0 + 1) _ _ rfl HO5.out _ (nextL c a) rfl HR5.out (by have := nextL_len c a; have := Hl9.out; have h1 : [((a : Nat) : Int)].length = 1 := rfl; rw [Hn.out]; omega) (by have := HX5.out.size; rw [Hs1.out] at this; exact this) ?_
        intro v6 w6 ho6 hx6 _
        have hB6 : OwnB w6 (b0 + 1) g ni (bs.set a true) := HB5.out.keep hx6 (fun e => own_blk HO5.out e HB5.out rfl)
        have HX6 : Hid (Ex W1 w6) := Lib.hid (HX5.out.ex HO5.out (by rw [Hs1.out]; exact Nat.le_refl _) hx6)
        obtain ⟨a6, c6, hv6⟩ := own_slice ho6
        subst hv6
        obtain ⟨m6, hm6⟩ : ∃ m, (td' ++ nextL c a).length = m := ⟨_, rfl⟩
        rw [hm6] at ho6 ⊢
        have HO6 := Lib.hid ho6; have HB6 := Lib.hid hB6
        have hfs := falses_set bs a Hbv.out
        have hm1 := falseIn_of hB6
        have hm2 := falseIn_of HB.out
        have hnl := nextL_len c a
        have hL6 : (td' ++ nextL c a).length + 3 * falses (bs.set a true) ≤ 20000 + 3 * ni := by
          rw [List.length_append, Hn.out]; have := Hl9.out; have h1 : [((a : Nat) : Int)].length = 1 := rfl; omega
        have hmeas : m6 + 3 * falseIn w6 g < n + 1 + 3 * falseIn wr g := by
          rw [← hm6, List.length_append, Hn.out, hm1, hm2]; omega
        have HL6 := Lib.hid hL6; have HMeas := Lib.hid hmeas
        clear ho6 hx6 hB6 hfs hm1 hm2 hnl hL6 hmeas hm6
        go_wp2_with fail
        go_roundw
        case rel => exact ⟨_, _, HI2, HX6, HO6, HB6, HL6⟩
        case measure => exact HMeas.out
end Go.Proofs.YtlaepkmnbbgbcaaGreatDoor
/- Origins. -/
namespace Go.Proofs.YtlaepkmnbbgbcaaGreatDoor
open Go.RowKit Go.Instr Go.Shelf
set_option linter.unusedVariables false
set_option linter.unusedSimpArgs false
attribute [local go_sem] Oper.semAt_some

def origL (c : Co) : Nat → Int → Option (List Int)
  | 0, _ => some []
  | n + 1, a => if (c.de a).around < 0 then none else (origL c n (c.de a).around).map fun l => (((c.de a).chain.length : Int) - 1) :: l
/-- What Origins answers. -/
def OrigR (w : World) (c : Co) (desc levels : Int) (e : Ending) (w' : World) : Prop :=
  if (chk c).1 = 0 ∧ 0 ≤ desc ∧ desc < c.descs.length ∧ 0 ≤ levels then
    match origL c levels.toNat desc with
    | none => e = .returned (.tuple #[.slice none 0 0, .int .i64 5]) ∧ Ex w w'
    | some l => ∃ v, e = .returned (.tuple #[v, .int .i64 0]) ∧ OwnI w' w.heap.size v l ∧ Ex w w'
  else e = .returned (.tuple #[.slice none 0 0, .int .i64 1]) ∧ Ex w w'
theorem good_around {c : Co} (h : Good c) {i : Nat} (hi : i < c.descs.length) : (c.de i).around < i ∧ 1 ≤ (c.de i).chain.length ∧ (c.de i).chain.length ≤ 40 := by
  have hg := h.descs i hi
  unfold descB chainB at hg
  simp only [Bool.and_eq_true, decide_eq_true_eq] at hg
  refine ⟨hg.1.1.1.1.1.1.1.1.1.1.1.1.1.1.2, ?_, ?_⟩
  · have := hg.1.1.1.1.1.1.1.1.1.1.1.1.1.2.1.1.1.1.1
    cases hc : (c.de i).chain with
    | nil => rw [hc] at this; simp at this
    | cons a l => simp
  · exact hg.1.1.1.1.1.1.1.1.1.1.1.1.1.2.1.1.1.1.2
set_option maxRecDepth 100000 in
set_option maxHeartbeats 8000000 in
theorem Origins_any {w : World} {dv lv tv rv iv : Value} {c : Co} {xs : List DeV} (h : RdCo w dv lv tv rv iv c xs) (hb : Big c) (desc levels : Int) :
    Calls Tryz.prog 24 #[codeV dv lv tv rv iv, .int .i64 desc, .int .i64 levels] w (OrigR w c desc levels) := by
  obtain ⟨W1, hW1⟩ : ∃ W1, w.alloc (.cells #[dv, lv, tv, rv, iv] 28) = W1 := ⟨_, rfl⟩
  obtain ⟨b0, hb0⟩ : ∃ b0, w.heap.size = b0 := ⟨_, rfl⟩
  have hX1 : Ex w W1 := by rw [← hW1]; exact (Keeps.refl _ w).alloc _
  have hB0 : Blk W1 b0 #[dv, lv, tv, rv, iv] 28 := by rw [← hW1, ← hb0]; exact Blk.new w _ _
  have hs1 : W1.heap.size = b0 + 1 := by rw [← hW1, World.size_alloc, hb0]
  have hwf := wellFormed_any (h.ext hX1) hb
  obtain ⟨da, dc, rfl, -, hd1, -⟩ := id h.ds
  obtain ⟨la, lc, rfl, -⟩ := id h.ls
  obtain ⟨ta, tc, rfl, -⟩ := id h.ts
  obtain ⟨ra, rc, rfl, -⟩ := id h.rs
  obtain ⟨ia, ic, rfl, -⟩ := id h.is
  have HF0 : ∀ V, Ex W1 V → Hid (V.cell? ⟨b0, 0, none⟩ = some (.slice da xs.length dc) ∧ V.cell? ⟨b0, 1, none⟩ = some (.slice la c.labels.length lc) ∧ V.cell? ⟨b0, 2, none⟩ = some (.slice ta c.texts.length tc) ∧ V.cell? ⟨b0, 3, none⟩ = some (.slice ra c.reals.length rc) ∧ V.cell? ⟨b0, 4, none⟩ = some (.slice ia c.instrs.length ic)) := fun V hV =>
    ⟨((hV.blk hB0 id).cell 0).trans rfl, ((hV.blk hB0 id).cell 1).trans rfl, ((hV.blk hB0 id).cell 2).trans rfl, ((hV.blk hB0 id).cell 3).trans rfl, ((hV.blk hB0 id).cell 4).trans rfl⟩
  have hxl := h.len
  obtain ⟨nd, hnd⟩ : ∃ n, xs.length = n := ⟨_, rfl⟩
  have hcn : c.descs.length = nd := by rw [← hxl, hnd]
  rw [hnd] at hwf hW1 HF0 ⊢
  unfold codeV at hwf ⊢
  have H := Lib.hid h; have HX1 := Lib.hid hX1; have HW1 := Lib.hid hW1; have Hb0 := Lib.hid hb0; have HWF := Lib.hid hwf; have Hd1 := Lib.hid hd1; have HN := Lib.hid hxl; have Hnd := Lib.hid hnd; have Hcn := Lib.hid hcn; have Hs1 := Lib.hid hs1
  clear hs1 h hX1 hB0 hW1 hb0 hwf hb hd1 hxl hnd hcn
  generalize hM : OrigR w c desc levels = M
  have HM := Lib.hid hM
  clear hM
  obtain ⟨x0, x1, x2, x3, x4⟩ := (HF0 W1 (Keeps.refl _ _)).out
  go_enter Tryz.func24, Tryz.ntmps24
  go_upto_region 1 with fail
  rw [HW1.out]
  try rw [Hb0.out]
  by_cases hg : (chk c).1 = 0
  case neg =>
    rw [decide_eq_false hg] at HWF
    have HG := Lib.hid hg
    go_wp2_with (go_at_call 46; refine HWF.out.mono ?_; rintro e w3 ⟨rfl, hx⟩; have HX := Lib.hid (HX1.out.trans hx); clear hx)
    rw [← HM.out]
    unfold OrigR
    rw [if_neg (fun h => HG.out h.1)]
    exact ⟨rfl, HX.out⟩
  rw [decide_eq_true hg] at HWF
  have HG := Lib.hid hg
  have HGood := Lib.hid ((good_iff c).1 hg)
  clear hg
  go_wp2_with fail
  refine HWF.out.mono ?_
  rintro e w2 ⟨rfl, hx⟩
  have HX2 := Lib.hid hx
  clear hx x0 x1 x2 x3 x4
  obtain ⟨x0, x1, x2, x3, x4⟩ := (HF0 w2 HX2.out).out
  by_cases h1 : 0 ≤ desc
  case neg =>
    have q : desc < 0 := by omega
    go_wp2_with fail
    rw [← HM.out]
    unfold OrigR
    rw [if_neg (fun h => by have := h.2.1; omega)]
    exact ⟨rfl, HX1.out.trans HX2.out⟩
  have q1 : ¬ desc < 0 := by omega
  by_cases h2 : desc < nd
  case neg =>
    have q : (nd : Int) ≤ desc := by omega
    go_wp2_with fail
    rw [← HM.out]
    unfold OrigR
    rw [if_neg (fun h => by have := h.2.2.1; rw [Hcn.out] at this; omega)]
    exact ⟨rfl, HX1.out.trans HX2.out⟩
  have q2 : ¬ (nd : Int) ≤ desc := by omega
  by_cases h3 : 0 ≤ levels
  case neg =>
    have q : levels < 0 := by omega
    go_wp2_with fail
    rw [← HM.out]
    unfold OrigR
    rw [if_neg (fun h => by have := h.2.2.2; omega)]
    exact ⟨rfl, HX1.out.trans HX2.out⟩
  have q3 : ¬ levels < 0 := by omega
  obtain ⟨a0, rfl⟩ : ∃ a : Nat, desc = a := ⟨desc.toNat, by omega⟩
  obtain ⟨L, rfl⟩ : ∃ a : Nat, levels = a := ⟨levels.toNat, by omega⟩
  have HM2 : Hid ((fun e w' => match origL c L a0 with
    | none => e = .returned (.tuple #[.slice none 0 0, .int .i64 5]) ∧ Ex w w'
    | some l => ∃ v, e = .returned (.tuple #[v, .int .i64 0]) ∧ OwnI w' w.heap.size v l ∧ Ex w w') = M) := Lib.hid (by
    rw [← HM.out]; funext e w'; unfold OrigR; rw [if_pos ⟨HG.out, h1, by rw [Hcn.out]; exact h2, h3⟩]; rfl)
  have ha0 : a0 < nd := by omega
  have hn2 : nd ≤ 2000 := by have := HGood.out.d2; rw [Hcn.out] at this; exact this
  obtain ⟨dad, rfl⟩ : ∃ ad, da = some ad := by
    cases da with
    | none => have := Hd1.out rfl; have h9 := Hnd.out; rw [this] at h9; simp at h9; omega
    | some ad => exact ⟨ad, rfl⟩
  have HOr : Hid (origL c L a0 = (origL c (L - 0) (a0 : Nat)).map fun l => [] ++ l) := Lib.hid (by
    cases origL c L a0 <;> rfl)
  have HO0 : Hid (OwnI w2 (b0 + 1) (.slice none 0 0) []) := Lib.hid (World.ownsRow_nil _ _ _ _)
  clear HM h1 h2 h3
  go_wp2_with fail
  clear q1 q2 q3 x0 x1 x2 x3 x4
  have d1 : decide (nd ≤ a0) = false := decide_eq_false (by omega)
  have d2 : decide ((a0 : Int) < 0) = false := decide_eq_false (by omega)
  have d3 : decide ((L : Int) < 0) = false := decide_eq_false (by omega)
  simp only [d1, d2, d3, Bool.or_false]
  clear d1 d2 d3
  go_loopw [8, 9] (fun v s wr => ∃ (k a : Nat) (acc : List Int), k ≤ L ∧ a + k ≤ a0 ∧ acc.length = k ∧ s = .int .i64 a ∧ Hid (OwnI wr (b0 + 1) v acc) ∧ Hid (Ex W1 wr) ∧ Hid (origL c L a0 = (origL c (L - k) (a : Nat)).map fun l => acc ++ l)) (fun v s wr => (intOf s).toNat + 1)
  case atStart => exact ⟨0, a0, [], Nat.zero_le _, by omega, rfl, rfl, HO0, HX2, HOr⟩
  case round =>
    obtain ⟨k, a, acc, hk, hak, hacc, rfl, HO, HX, HQ⟩ := hrel
    obtain ⟨x0, x1, x2, x3, x4⟩ := (HF0 wr HX.out).out
    obtain ⟨oa, oc, ho⟩ := own_slice HO.out
    rw [hacc] at ho
    subst ho
    have Hacc := Lib.hid hacc
    clear hacc
    by_cases hlt : k < L
    case neg =>
      have hkL : k = L := by omega
      subst hkL
      go_wp2_with fail
      rw [← HM2.out]
      have hq := HQ.out
      rw [Nat.sub_self] at hq
      simp only [origL, Option.map_some, List.append_nil] at hq
      show match origL c k a0 with | none => _ | some l => _
      rw [hq]
      exact ⟨_, rfl, by rw [Hb0.out]; exact HO.out.low (by omega), HX1.out.trans HX.out⟩
    case pos =>
      have han : a < nd := by omega
      obtain ⟨x, hx⟩ : ∃ x, xs[a]? = some x := ⟨_, List.getElem?_eq_getElem (by rw [Hnd.out]; exact han)⟩
      have hxd : c.descs[a]? = some x.d := by rw [← H.out.eq, List.getElem?_map, hx]; rfl
      have hde : c.de a = x.d := by unfold Co.de; rw [List.getD_eq_getElem?_getD, show ((a : Int).toNat) = a from rfl, hxd]; rfl
      have hgo := good_around HGood.out (i := a) (by rw [Hcn.out]; exact han)
      rw [hde] at hgo
      have hD := H.out.de x (List.mem_of_getElem? hx)
      obtain ⟨A, hA⟩ : ∃ A, dad.add (a * 11) = A := ⟨_, rfl⟩
      obtain ⟨e0, e1, e2, e3, e4, e5, e6, e7, e8, e9, e10⟩ := (H.out.ds.ext (HX1.out.trans HX.out)).deCells hx hA
      obtain ⟨d, cv, uv, vv⟩ := x
      obtain ⟨ca, cc, ec, -⟩ := id hD.chain
      simp only at ec hxd e1 e0 hde hgo
      subst ec
      obtain ⟨m, hm⟩ : ∃ m, d.chain.length = m := ⟨_, rfl⟩
      rw [hm] at e1 hgo
      obtain ⟨g1, g2, g3⟩ := hgo
      have HDe := Lib.hid hde; have Hm := Lib.hid hm
      have hstep : origL c (L - k) a = if d.around < 0 then none else (origL c (L - (k + 1)) d.around).map fun l => ((m : Int) - 1) :: l := by
        rw [show L - k = (L - (k + 1)) + 1 by omega]
        show (if (c.de a).around < 0 then none else _) = _
        rw [hde, hm]
      have HStep := Lib.hid hstep
      clear e2 e3 e4 e5 e6 e7 e8 e9 e10 hD hx hxd hde hm hstep
      have r1 : ((k : Int) < L) := by omega
      by_cases hneg : d.around < 0
      case pos =>
        have hq := HQ.out
        rw [HStep.out, if_pos hneg] at hq
        have HQ3 := Lib.hid hq
        clear hq
        go_wp2_with fail
        rw [← HM2.out]
        show match origL c L a0 with | none => _ | some l => _
        rw [HQ3.out]
        exact ⟨rfl, HX1.out.trans HX.out⟩
      case neg =>
        obtain ⟨a2, ha2⟩ : ∃ a2 : Nat, d.around = a2 := ⟨d.around.toNat, by omega⟩
        have hq := HQ.out
        rw [HStep.out, if_neg hneg, ha2, Option.map_map] at hq
        have hq2 : origL c L a0 = (origL c (L - (k + 1)) (a2 : Nat)).map fun l => (acc ++ [(m : Int) - 1]) ++ l := by
          rw [hq]; congr 1; funext l; simp
        have HQ3 := Lib.hid hq2
        have Hda2 := Lib.hid ha2
        rw [ha2] at e0 g1 hneg
        clear hq hq2 ha2
        have r2 : IntKind.i64.wrap ((m : Int) - 1) = (m : Int) - 1 := by simp [IntKind.wrap_i64]; omega
        obtain ⟨W3, hW3⟩ : ∃ W3, wr.alloc (.cells #[.int .i64 ((m : Int) - 1)] 3) = W3 := ⟨_, rfl⟩
        obtain ⟨b3, hb3⟩ : ∃ b, wr.heap.size = b := ⟨_, rfl⟩
        have hX3 : Ex wr W3 := by rw [← hW3]; exact (Keeps.refl _ _).alloc _
        have hR3 : RdL encI W3 (.slice (some ⟨b3, 0, none⟩) 1 1) [(m : Int) - 1] := by rw [← hW3, ← hb3]; exact Blk.rdI (l := [(m : Int) - 1]) (Blk.new wr _ _)
        have hO3 : OwnI W3 (b0 + 1) (.slice oa k oc) acc := HO.out.kept hX3 fun _ _ => id
        have HX3 := Lib.hid (HX.out.trans hX3); have HR3 := Lib.hid hR3; have HO3 := Lib.hid hO3; have HW3 := Lib.hid hW3; have Hb3 := Lib.hid hb3
        clear hX3 hR3 hO3 hW3 hb3
        go_wp2_with (at_builtin; refine (fun h => h trivial : (True → _) → _) ?_)
        intro _
        rw [HW3.out]
        try rw [Hb3.out]
        refine wpList_appI rfl _ _ rfl (b0 + 1) _ _ rfl HO3.out _ [(m : Int) - 1] rfl HR3.out (by rw [Hacc.out]; show k + 1 ≤ _; omega) (by have := HX3.out.size; rw [Hs1.out] at this; exact this) ?_
        intro v6 w6 ho6 hx6 _
        have HO6 := Lib.hid ho6
        have HX6 : Hid (Ex W1 w6) := Lib.hid (HX3.out.ex HO3.out (by rw [Hs1.out]; exact Nat.le_refl _) hx6)
        clear ho6 hx6 e0 e1 x0 x1 x2 x3 x4
        obtain ⟨x0, x1, x2, x3, x4⟩ := (HF0 w6 HX6.out).out
        obtain ⟨y, hy⟩ : ∃ y, xs[a]? = some y := ⟨_, List.getElem?_eq_getElem (by rw [Hnd.out]; exact han)⟩
        obtain ⟨e0, -⟩ := (H.out.ds.ext (HX1.out.trans HX6.out)).deCells hy hA
        have hyd : y.d = d := by
          have h9 : c.descs[a]? = some y.d := by rw [← H.out.eq, List.getElem?_map, hy]; rfl
          rw [← HDe.out]; unfold Co.de; rw [List.getD_eq_getElem?_getD, show ((a : Int).toNat) = a from rfl, h9]; rfl
        rw [hyd, Hda2.out] at e0
        clear hy hyd
        go_wp2_with fail
        go_roundw
        case rel => exact ⟨k + 1, a2, _, by omega, by omega, by rw [List.length_append, Hacc.out]; rfl, rfl, HO6, HX6, HQ3⟩
        case measure => show ((a2 : Nat) : Int).toNat + 1 < ((a : Nat) : Int).toNat + 1; omega
end Go.Proofs.YtlaepkmnbbgbcaaGreatDoor
/- Prefixes, in plain Lean: offsets grow with the cells ahead; chains are beginnings of each other; Origins in two parts. -/
namespace Go.Proofs.YtlaepkmnbbgbcaaGreatDoor
open Go.RowKit Go.Instr Go.Shelf
set_option linter.unusedVariables false
set_option linter.unusedSimpArgs false

def preS (c : Co) (l : List Int) : Int := (l.map fun i => (c.de i).cells).sum
theorem preS_snoc (c : Co) (l : List Int) (i : Int) : preS c (l ++ [i]) = preS c l + (c.de i).cells := by
  unfold preS; rw [List.map_append, List.sum_append]; simp
structure PreOk (c : Co) (l : List Int) (q : Nat) : Prop where
  off : (c.de (l.getD q 0)).offset = preS c (l.take q)
  ch : (c.de (l.getD q 0)).chain = l.take (q + 1)
  lo : 0 ≤ l.getD q 0
  hi : l.getD q 0 < c.descs.length
  o1 : 0 ≤ (c.de (l.getD q 0)).offset
  c1 : 0 ≤ (c.de (l.getD q 0)).cells
  s1 : (c.de (l.getD q 0)).offset + (c.de (l.getD q 0)).cells ≤ 1500
theorem good_parts {c : Co} (h : Good c) {i : Nat} (hi : i < c.descs.length) :
    0 ≤ (c.de i).offset ∧ 0 ≤ (c.de i).cells ∧ (c.de i).offset ≤ 1500 ∧ (c.de i).cells ≤ 1500 - (c.de i).offset ∧ (c.de i).offset = beforeD c (c.de i) ∧ (c.de i).chain.getD ((c.de i).chain.length - 1) 0 = i ∧ ∀ q, q < (c.de i).chain.length → levelB c (c.de i) q = true := by
  have hg := h.descs i hi
  unfold descB chainB at hg
  simp only [Bool.and_eq_true, decide_eq_true_eq, List.all_eq_true, List.mem_range] at hg
  exact ⟨hg.1.1.1.1.1.1.1.1.1.1.1.1.2, hg.1.1.1.1.1.1.1.1.1.1.1.2, hg.1.1.1.1.1.1.1.1.1.1.2, hg.1.1.1.1.1.1.1.1.1.2, hg.1.1.1.1.1.1.1.1.2, hg.1.1.1.1.1.1.1.1.1.1.1.1.1.2.1.1.1.2, hg.1.1.1.1.1.1.1.1.1.1.1.1.1.2.2⟩
theorem pre_ok {c : Co} (h : Good c) {a : Nat} (ha : a < c.descs.length) : ∀ q, q < (c.de a).chain.length → PreOk c (c.de a).chain q := by
  obtain ⟨-, -, -, -, -, hlast, hlev⟩ := good_parts h ha
  generalize hl : (c.de a).chain = l at *
  have base : ∀ q, q < l.length → 0 ≤ l.getD q 0 ∧ l.getD q 0 < c.descs.length ∧ (c.de (l.getD q 0)).chain = l.take (q + 1) := by
    intro q hq
    have hv := hlev q hq
    unfold levelB at hv
    rw [hl] at hv
    simp only [Bool.and_eq_true, Bool.or_eq_true, decide_eq_true_eq] at hv
    refine ⟨hv.1.1.1.1, hv.1.1.1.2, ?_⟩
    by_cases hq1 : q < l.length - 1
    · rcases hv.2 with h1 | h1
      · exact absurd hq1 h1
      · exact h1
    · have e : q = l.length - 1 := by omega
      rw [e, hlast, hl, show l.length - 1 + 1 = l.length by omega, List.take_length]
  intro q
  induction q with
  | zero =>
    intro hq
    obtain ⟨b1, b2, b3⟩ := base 0 hq
    obtain ⟨i, hi⟩ : ∃ i : Nat, l.getD 0 0 = i := ⟨(l.getD 0 0).toNat, by omega⟩
    rw [hi] at b2 b3
    obtain ⟨p1, p2, p3, p4, p5, -, -⟩ := good_parts h (i := i) (by omega)
    have hoff : (c.de i).offset = 0 := by
      rw [p5]; unfold beforeD
      rw [b3, if_neg (by rw [List.length_take]; omega)]
    exact ⟨by rw [hi, hoff]; rfl, by rw [hi]; exact b3, b1, by rw [hi]; exact b2, by rw [hi]; exact p1, by rw [hi]; exact p2, by rw [hi]; omega⟩
  | succ q ih =>
    intro hq
    have hp := ih (by omega)
    obtain ⟨b1, b2, b3⟩ := base (q + 1) hq
    obtain ⟨i, hi⟩ : ∃ i : Nat, l.getD (q + 1) 0 = i := ⟨(l.getD (q + 1) 0).toNat, by omega⟩
    rw [hi] at b2 b3
    obtain ⟨p1, p2, p3, p4, p5, -, -⟩ := good_parts h (i := i) (by omega)
    have hlen : (c.de i).chain.length = q + 2 := by rw [b3, List.length_take]; omega
    have hprev : (c.de i).chain.getD ((c.de i).chain.length - 2) 0 = l.getD q 0 := by
      rw [hlen, b3, List.getD_eq_getElem?_getD, List.getD_eq_getElem?_getD, show q + 2 - 2 = q by omega, List.getElem?_take, if_pos (by omega)]
    have hoff : (c.de i).offset = preS c (l.take (q + 1)) := by
      rw [p5]; unfold beforeD
      rw [hlen, if_pos (by omega), show q + 2 - 2 = (c.de i).chain.length - 2 by rw [hlen], hprev]
      have hx : l[q]? = some (l.getD q 0) := by
        rw [List.getD_eq_getElem?_getD, List.getElem?_eq_getElem (by omega)]; rfl
      rw [List.take_add_one, hx]
      show _ = preS c (l.take q ++ [l.getD q 0])
      rw [preS_snoc, ← hp.off]
      have h1 := hp.o1; have h2 := hp.c1; have h3 := hp.s1
      unfold wrap64; omega
    exact ⟨by rw [hi]; exact hoff, by rw [hi]; exact b3, b1, by rw [hi]; exact b2, by rw [hi]; exact p1, by rw [hi]; exact p2, by rw [hi]; omega⟩
/-- The descriptor so many levels up. -/
def upL (c : Co) : Nat → Int → Int
  | 0, a => a
  | n + 1, a => upL c n (c.de a).around
theorem upL_succ (c : Co) : ∀ (n : Nat) (a : Int), upL c (n + 1) a = (c.de (upL c n a)).around
  | 0, a => rfl
  | n + 1, a => upL_succ c n (c.de a).around
theorem orig_split (c : Co) (h : Good c) : ∀ (m n a : Nat) (l : List Int), a < c.descs.length → origL c (m + n) a = some l →
    ∃ l1 l2, origL c m a = some l1 ∧ origL c n (upL c m a) = some l2 ∧ l = l1 ++ l2 ∧ ∀ k, k ≤ m → 0 ≤ upL c k a ∧ upL c k a < c.descs.length
  | 0, n, a, l, ha, ho => ⟨[], l, rfl, by rw [Nat.zero_add] at ho; exact ho, rfl, fun k hk => by
      obtain rfl : k = 0 := by omega
      exact ⟨by show (0 : Int) ≤ a; omega, by show (a : Int) < _; omega⟩⟩
  | m + 1, n, a, l, ha, ho => by
    rw [show m + 1 + n = (m + n) + 1 by omega] at ho
    unfold origL at ho
    by_cases hneg : (c.de a).around < 0
    · rw [if_pos hneg] at ho; cases ho
    · rw [if_neg hneg] at ho
      obtain ⟨l', hl', rfl⟩ := Option.map_eq_some_iff.1 ho
      have hga := (good_around h ha).1
      obtain ⟨a2, ha2⟩ : ∃ a2 : Nat, (c.de a).around = a2 := ⟨(c.de a).around.toNat, by omega⟩
      rw [ha2] at hl' hga
      obtain ⟨l1, l2, h1, h2, h3, h4⟩ := orig_split c h m n a2 l' (by omega) hl'
      refine ⟨(((c.de a).chain.length : Int) - 1) :: l1, l2, ?_, ?_, by rw [h3]; rfl, fun k hk => ?_⟩
      · unfold origL; rw [if_neg hneg, ha2, h1]; rfl
      · show origL c n (upL c m (c.de a).around) = _; rw [ha2]; exact h2
      · cases k with
        | zero => exact ⟨by show (0 : Int) ≤ a; omega, by show (a : Int) < _; omega⟩
        | succ k =>
          have := h4 k (by omega)
          show 0 ≤ upL c k (c.de a).around ∧ _
          rw [show upL c (k + 1) a = upL c k (c.de a).around from rfl, ha2]; exact this
end Go.Proofs.YtlaepkmnbbgbcaaGreatDoor
