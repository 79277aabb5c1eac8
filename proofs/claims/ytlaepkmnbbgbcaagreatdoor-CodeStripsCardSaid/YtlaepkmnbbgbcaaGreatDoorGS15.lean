/- Origins. Prefixes, in plain Lean: offsets grow with the cells ahead; chains are beginnings of each other; Origins in two parts. -/
import Derived.Test.YtlaepkmnbbgbcaaGreatDoorGS13
/- Origins. -/
namespace Go.Proofs.YtlaepkmnbbgbcaaGreatDoor
open Go.RowKit Go.Instr Go.Shelf
set_option linter.unusedVariables false
set_option linter.unusedSimpArgs false
attribute [local go_sem] Oper.semAt_some

def origL (c : Co) : Nat → Int → Option (List Int)
  | 0, _ => some []
  | n + 1, a => if (c.de a).around < 0 then none else (origL c n (c.de a).around).map fun l => (((c.de a).chain.length : Int) - 1) :: l
/-- What Origins answers. -/
def OrigR (w : World) (c : Co) (desc levels : Int) (e : Ending) (w' : World) : Prop :=
  if (chk c).1 = 0 ∧ 0 ≤ desc ∧ desc < c.descs.length ∧ 0 ≤ levels then
    match origL c levels.toNat desc with
    | none => e = .returned (.tuple #[.slice none 0 0, .int .i64 5]) ∧ Ex w w'
    | some l => ∃ v, e = .returned (.tuple #[v, .int .i64 0]) ∧ OwnI w' w.heap.size v l ∧ Ex w w'
  else e = .returned (.tuple #[.slice none 0 0, .int .i64 1]) ∧ Ex w w'
theorem good_around {c : Co} (h : Good c) {i : Nat} (hi : i < c.descs.length) : (c.de i).around < i ∧ 1 ≤ (c.de i).chain.length ∧ (c.de i).chain.length ≤ 40 := by
  have hg := h.descs i hi
  unfold descB chainB at hg
  simp only [Bool.and_eq_true, decide_eq_true_eq] at hg
  refine ⟨hg.1.1.1.1.1.1.1.1.1.1.1.1.1.1.2, ?_, ?_⟩
  · have := hg.1.1.1.1.1.1.1.1.1.1.1.1.1.2.1.1.1.1.1
    cases hc : (c.de i).chain with
    | nil => rw [hc] at this; simp at this
    | cons a l => simp
  · exact hg.1.1.1.1.1.1.1.1.1.1.1.1.1.2.1.1.1.1.2
set_option maxRecDepth 100000 in
set_option maxHeartbeats 8000000 in
theorem Origins_any {w : World} {dv lv tv rv iv : Value} {c : Co} {xs : List DeV} (h : RdCo w dv lv tv rv iv c xs) (hb : Big c) (desc levels : Int) :
    Calls Tryz.prog 24 #[codeV dv lv tv rv iv, .int .i64 desc, .int .i64 levels] w (OrigR w c desc levels) := by
  obtain ⟨W1, hW1⟩ : ∃ W1, w.alloc (.cells #[dv, lv, tv, rv, iv] 28) = W1 := ⟨_, rfl⟩
  obtain ⟨b0, hb0⟩ : ∃ b0, w.heap.size = b0 := ⟨_, rfl⟩
  have hX1 : Ex w W1 := by rw [← hW1]; exact (Keeps.refl _ w).alloc _
  have hB0 : Blk W1 b0 #[dv, lv, tv, rv, iv] 28 := by rw [← hW1, ← hb0]; exact Blk.new w _ _
  have hs1 : W1.heap.size = b0 + 1 := by rw [← hW1, World.size_alloc, hb0]
  have hwf := wellFormed_any (h.ext hX1) hb
  obtain ⟨da, dc, rfl, -, hd1, -⟩ := id h.ds
  obtain ⟨la, lc, rfl, -⟩ := id h.ls
  obtain ⟨ta, tc, rfl, -⟩ := id h.ts
  obtain ⟨ra, rc, rfl, -⟩ := id h.rs
  obtain ⟨ia, ic, rfl, -⟩ := id h.is
  have HF0 : ∀ V, Ex W1 V → Hid (V.cell? ⟨b0, 0, none⟩ = some (.slice da xs.length dc) ∧ V.cell? ⟨b0, 1, none⟩ = some (.slice la c.labels.length lc) ∧ V.cell? ⟨b0, 2, none⟩ = some (.slice ta c.texts.length tc) ∧ V.cell? ⟨b0, 3, none⟩ = some (.slice ra c.reals.length rc) ∧ V.cell? ⟨b0, 4, none⟩ = some (.slice ia c.instrs.length ic)) := fun V hV =>
    ⟨((hV.blk hB0 id).cell 0).trans rfl, ((hV.blk hB0 id).cell 1).trans rfl, ((hV.blk hB0 id).cell 2).trans rfl, ((hV.blk hB0 id).cell 3).trans rfl, ((hV.blk hB0 id).cell 4).trans rfl⟩
  have hxl := h.len
  obtain ⟨nd, hnd⟩ : ∃ n, xs.length = n := ⟨_, rfl⟩
  have hcn : c.descs.length = nd := by rw [← hxl, hnd]
  rw [hnd] at hwf hW1 HF0 ⊢
  unfold codeV at hwf ⊢
  have H := Lib.hid h; have HX1 := Lib.hid hX1; have HW1 := Lib.hid hW1; have Hb0 := Lib.hid hb0; have HWF := Lib.hid hwf; have Hd1 := Lib.hid hd1; have HN := Lib.hid hxl; have Hnd := Lib.hid hnd; have Hcn := Lib.hid hcn; have Hs1 := Lib.hid hs1
  clear hs1 h hX1 hB0 hW1 hb0 hwf hb hd1 hxl hnd hcn
  generalize hM : OrigR w c desc levels = M
  have HM := Lib.hid hM
  clear hM
  obtain ⟨x0, x1, x2, x3, x4⟩ := (HF0 W1 (Keeps.refl _ _)).out
  go_enter Tryz.func24, Tryz.ntmps24
  go_upto_region 1 with fail
  rw [HW1.out]
  try rw [Hb0.out]
  by_cases hg : (chk c).1 = 0
  case neg =>
    rw [decide_eq_false hg] at HWF
    have HG := Lib.hid hg
    go_wp2_with (go_at_call 46; refine HWF.out.mono ?_; rintro e w3 ⟨rfl, hx⟩; have HX := Lib.hid (HX1.out.trans hx); clear hx)
    rw [← HM.out]
    unfold OrigR
    rw [if_neg (fun h => HG.out h.1)]
    exact ⟨rfl, HX.out⟩
  rw [decide_eq_true hg] at HWF
  have HG := Lib.hid hg
  have HGood := Lib.hid ((good_iff c).1 hg)
  clear hg
  go_wp2_with fail
  refine HWF.out.mono ?_
  rintro e w2 ⟨rfl, hx⟩
  have HX2 := Lib.hid hx
  clear hx x0 x1 x2 x3 x4
  obtain ⟨x0, x1, x2, x3, x4⟩ := (HF0 w2 HX2.out).out
  by_cases h1 : 0 ≤ desc
  case neg =>
    have q : desc < 0 := by omega
    go_wp2_with fail
    rw [← HM.out]
    unfold OrigR
    rw [if_neg (fun h => by have := h.2.1; omega)]
    exact ⟨rfl, HX1.out.trans HX2.out⟩
  have q1 : ¬ desc < 0 := by omega
  by_cases h2 : desc < nd
  case neg =>
    have q : (nd : Int) ≤ desc := by omega
    go_wp2_with fail
    rw [← HM.out]
    unfold OrigR
    rw [if_neg (fun h => by have := h.2.2.1; rw [Hcn.out] at this; omega)]
    exact ⟨rfl, HX1.out.trans HX2.out⟩
  have q2 : ¬ (nd : Int) ≤ desc := by omega
  by_cases h3 : 0 ≤ levels
  case neg =>
    have q : levels < 0 := by omega
    go_wp2_with fail
    rw [← HM.out]
    unfold OrigR
    rw [if_neg (fun h => by have := h.2.2.2; omega)]
    exact ⟨rfl, HX1.out.trans HX2.out⟩
  have q3 : ¬ levels < 0 := by omega
  obtain ⟨a0, rfl⟩ : ∃ a : Nat, desc = a := ⟨desc.toNat, by omega⟩
  obtain ⟨L, rfl⟩ : ∃ a : Nat, levels = a := ⟨levels.toNat, by omega⟩
  have HM2 : Hid ((fun e w' => match origL c L a0 with
    | none => e = .returned (.tuple #[.slice none 0 0, .int .i64 5]) ∧ Ex w w'
    | some l => ∃ v, e = .returned (.tuple #[v, .int .i64 0]) ∧ OwnI w' w.heap.size v l ∧ Ex w w') = M) := Lib.hid (by
    rw [← HM.out]; funext e w'; unfold OrigR; rw [if_pos ⟨HG.out, h1, by rw [Hcn.out]; exact h2, h3⟩]; rfl)
  have ha0 : a0 < nd := by omega
  have hn2 : nd ≤ 2000 := by have := HGood.out.d2; rw [Hcn.out] at this; exact this
  obtain ⟨dad, rfl⟩ : ∃ ad, da = some ad := by
    cases da with
    | none => have := Hd1.out rfl; have h9 := Hnd.out; rw [this] at h9; simp at h9; omega
    | some ad => exact ⟨ad, rfl⟩
  have HOr : Hid (origL c L a0 = (origL c (L - 0) (a0 : Nat)).map fun l => [] ++ l) := Lib.hid (by
    cases origL c L a0 <;> rfl)
  have HO0 : Hid (OwnI w2 (b0 + 1) (.slice none 0 0) []) := Lib.hid (World.ownsRow_nil _ _ _ _)
  clear HM h1 h2 h3
  go_wp2_with fail
  clear q1 q2 q3 x0 x1 x2 x3 x4
  have d1 : decide (nd ≤ a0) = false := decide_eq_false (by omega)
  have d2 : decide ((a0 : Int) < 0) = false := decide_eq_false (by omega)
  have d3 : decide ((L : Int) < 0) = false := decide_eq_false (by omega)
  simp only [d1, d2, d3, Bool.or_false]
  clear d1 d2 d3
  go_loopw [8, 9] (fun v s wr => ∃ (k a : Nat) (acc : List Int), k ≤ L ∧ a + k ≤ a0 ∧ acc.length = k ∧ s = .int .i64 a ∧ Hid (OwnI wr (b0 + 1) v acc) ∧ Hid (Ex W1 wr) ∧ Hid (origL c L a0 = (origL c (L - k) (a : Nat)).map fun l => acc ++ l)) (fun v s wr => (intOf s).toNat + 1)
  case atStart => exact ⟨0, a0, [], Nat.zero_le _, by omega, rfl, rfl, HO0, HX2, HOr⟩
  case round =>
    obtain ⟨k, a, acc, hk, hak, hacc, rfl, HO, HX, HQ⟩ := hrel
    obtain ⟨x0, x1, x2, x3, x4⟩ := (HF0 wr HX.out).out
    obtain ⟨oa, oc, ho⟩ := own_slice HO.out
    rw [hacc] at ho
    subst ho
    have Hacc := Lib.hid hacc
    clear hacc
    by_cases hlt : k < L
    case neg =>
      have hkL : k = L := by omega
      subst hkL
      go_wp2_with fail
      rw [← HM2.out]
      have hq := HQ.out
      rw [Nat.sub_self] at hq
      simp only [origL, Option.map_some, List.append_nil] at hq
      show match origL c k a0 with | none => _ | some l => _
      rw [hq]
      exact ⟨_, rfl, by rw [Hb0.out]; exact HO.out.low (by omega), HX1.out.trans HX.out⟩
    case pos =>
      have han : a < nd := by omega
      obtain ⟨x, hx⟩ : ∃ x, xs[a]? = some x := ⟨_, List.getElem?_eq_getElem (by rw [Hnd.out]; exact han)⟩
      have hxd : c.descs[a]? = some x.d := by rw [← H.out.eq, List.getElem?_map, hx]; rfl
      have hde : c.de a = x.d := by unfold Co.de; rw [List.getD_eq_getElem?_getD, show ((a : Int).toNat) = a from rfl, hxd]; rfl
      have hgo := good_around HGood.out (i := a) (by rw [Hcn.out]; exact han)
      rw [hde] at hgo
      have hD := H.out.de x (List.mem_of_getElem? hx)
      obtain ⟨A, hA⟩ : ∃ A, dad.add (a * 11) = A := ⟨_, rfl⟩
      obtain ⟨e0, e1, e2, e3, e4, e5, e6, e7, e8, e9, e10⟩ := (H.out.ds.ext (HX1.out.trans HX.out)).deCells hx hA
      obtain ⟨d, cv, uv, vv⟩ := x
      obtain ⟨ca, cc, ec, -⟩ := id hD.chain
      simp only at ec hxd e1 e0 hde hgo
      subst ec
      obtain ⟨m, hm⟩ : ∃ m, d.chain.length = m := ⟨_, rfl⟩
      rw [hm] at e1 hgo
      obtain ⟨g1, g2, g3⟩ := hgo
      have HDe := Lib.hid hde; have Hm := Lib.hid hm
      have hstep : origL c (L - k) a = if d.around < 0 then none else (origL c (L - (k + 1)) d.around).map fun l => ((m : Int) - 1) :: l := by
        rw [show L - k = (L - (k + 1)) + 1 by omega]
        show (if (c.de a).around < 0 then none else _) = _
        rw [hde, hm]
      have HStep := Lib.hid hstep
      clear e2 e3 e4 e5 e6 e7 e8 e9 e10 hD hx hxd hde hm hstep
      have r1 : ((k : Int) < L) := by omega
      by_cases hneg : d.around < 0
      case pos =>
        have hq := HQ.out
        rw [HStep.out, if_pos hneg] at hq
        have HQ3 := Lib.hid hq
        clear hq
        go_wp2_with fail
        rw [← HM2.out]
        show match origL c L a0 with | none => _ | some l => _
        rw [HQ3.out]
        exact ⟨rfl, HX1.out.trans HX.out⟩
      case neg =>
        obtain ⟨a2, ha2⟩ : ∃ a2 : Nat, d.around = a2 := ⟨d.around.toNat, by omega⟩
        have hq := HQ.out
        rw [HStep.out, if_neg hneg, ha2, Option.map_map] at hq
        have hq2 : origL c L a0 = (origL c (L - (k + 1)) (a2 : Nat)).map fun l => (acc ++ [(m : Int) - 1]) ++ l := by
          rw [hq]; congr 1; funext l; simp
        have HQ3 := Lib.hid hq2
        have Hda2 := Lib.hid ha2
        rw [ha2] at e0 g1 hneg
        clear hq hq2 ha2
        have r2 : IntKind.i64.wrap ((m : Int) - 1) = (m : Int) - 1 := by simp [IntKind.wrap_i64]; omega
        obtain ⟨W3, hW3⟩ : ∃ W3, wr.alloc (.cells #[.int .i64 ((m : Int) - 1)] 3) = W3 := ⟨_, rfl⟩
        obtain ⟨b3, hb3⟩ : ∃ b, wr.heap.size = b := ⟨_, rfl⟩
        have hX3 : Ex wr W3 := by rw [← hW3]; exact (Keeps.refl _ _).alloc _
        have hR3 : RdL encI W3 (.slice (some ⟨b3, 0, none⟩) 1 1) [(m : Int) - 1] := by rw [← hW3, ← hb3]; exact Blk.rdI (l := [(m : Int) - 1]) (Blk.new wr _ _)
        have hO3 : OwnI W3 (b0 + 1) (.slice oa k oc) acc := HO.out.kept hX3 fun _ _ => id
        have HX3 := Lib.hid (HX.out.trans hX3); have HR3 := Lib.hid hR3; have HO3 := Lib.hid hO3; have HW3 := Lib.hid hW3; have Hb3 := Lib.hid hb3
        clear hX3 hR3 hO3 hW3 hb3
        go_wp2_with (at_builtin; refine (fun h => h trivial : (True → _) → _) ?_)
        intro _
        rw [HW3.out]
        try rw [Hb3.out]
        refine wpList_appI rfl _ _ rfl (b0 + 1) _ _ rfl HO3.out _ [(m : Int) - 1] rfl HR3.out (by rw [Hacc.out]; show k + 1 ≤ _; omega) (by have := HX3.out.size; rw [Hs1.out] at this; exact this) ?_
        intro v6 w6 ho6 hx6 _
        have HO6 := Lib.hid ho6
        have HX6 : Hid (Ex W1 w6) := Lib.hid (HX3.out.ex HO3.out (by rw [Hs1.out]; exact Nat.le_refl _) hx6)
        clear ho6 hx6 e0 e1 x0 x1 x2 x3 x4
        obtain ⟨x0, x1, x2, x3, x4⟩ := (HF0 w6 HX6.out).out
        obtain ⟨y, hy⟩ : ∃ y, xs[a]? = some y := ⟨_, List.getElem?_eq_getElem (by rw [Hnd.out]; exact han)⟩
        obtain ⟨e0, -⟩ := (H.out.ds.ext (HX1.out.trans HX6.out)).deCells hy hA
        have hyd : y.d = d := by
          have h9 : c.descs[a]? = some y.d := by rw [← H.out.eq, List.getElem?_map, hy]; rfl
          rw [← HDe.out]; unfold Co.de; rw [List.getD_eq_getElem?_getD, show ((a : Int).toNat) = a from rfl, h9]; rfl
        rw [hyd, Hda2.out] at e0
        clear hy hyd
        go_wp2_with fail
        go_roundw
        case rel => exact ⟨k + 1, a2, _, by omega, by omega, by rw [List.length_append, Hacc.out]; rfl, rfl, HO6, HX6, HQ3⟩
        case measure => show ((a2 : Nat) : Int).toNat + 1 < ((a : Nat) : Int).toNat + 1; omega
end Go.Proofs.YtlaepkmnbbgbcaaGreatDoor
/- Prefixes, in plain Lean: offsets grow with the cells ahead; chains are beginnings of each other; Origins in two parts. -/
namespace Go.Proofs.YtlaepkmnbbgbcaaGreatDoor
open Go.RowKit Go.Instr Go.Shelf
set_option linter.unusedVariables false
set_option linter.unusedSimpArgs false

def preS (c : Co) (l : List Int) : Int := (l.map fun i => (c.de i).cells).sum
theorem preS_snoc (c : Co) (l : List Int) (i : Int) : preS c (l ++ [i]) = preS c l + (c.de i).cells := by
  unfold preS; rw [List.map_append, List.sum_append]; simp
structure PreOk (c : Co) (l : List Int) (q : Nat) : Prop where
  off : (c.de (l.getD q 0)).offset = preS c (l.take q)
  ch : (c.de (l.getD q 0)).chain = l.take (q + 1)
  lo : 0 ≤ l.getD q 0
  hi : l.getD q 0 < c.descs.length
  o1 : 0 ≤ (c.de (l.getD q 0)).offset
  c1 : 0 ≤ (c.de (l.getD q 0)).cells
  s1 : (c.de (l.getD q 0)).offset + (c.de (l.getD q 0)).cells ≤ 1500
theorem good_parts {c : Co} (h : Good c) {i : Nat} (hi : i < c.descs.length) :
    0 ≤ (c.de i).offset ∧ 0 ≤ (c.de i).cells ∧ (c.de i).offset ≤ 1500 ∧ (c.de i).cells ≤ 1500 - (c.de i).offset ∧ (c.de i).offset = beforeD c (c.de i) ∧ (c.de i).chain.getD ((c.de i).chain.length - 1) 0 = i ∧ ∀ q, q < (c.de i).chain.length → levelB c (c.de i) q = true := by
  have hg := h.descs i hi
  unfold descB chainB at hg
  simp only [Bool.and_eq_true, decide_eq_true_eq, List.all_eq_true, List.mem_range] at hg
  exact ⟨hg.1.1.1.1.1.1.1.1.1.1.1.1.2, hg.1.1.1.1.1.1.1.1.1.1.1.2, hg.1.1.1.1.1.1.1.1.1.1.2, hg.1.1.1.1.1.1.1.1.1.2, hg.1.1.1.1.1.1.1.1.2, hg.1.1.1.1.1.1.1.1.1.1.1.1.1.2.1.1.1.2, hg.1.1.1.1.1.1.1.1.1.1.1.1.1.2.2⟩
theorem pre_ok {c : Co} (h : Good c) {a : Nat} (ha : a < c.descs.length) : ∀ q, q < (c.de a).chain.length → PreOk c (c.de a).chain q := by
  obtain ⟨-, -, -, -, -, hlast, hlev⟩ := good_parts h ha
  generalize hl : (c.de a).chain = l at *
  have base : ∀ q, q < l.length → 0 ≤ l.getD q 0 ∧ l.getD q 0 < c.descs.length ∧ (c.de (l.getD q 0)).chain = l.take (q + 1) := by
    intro q hq
    have hv := hlev q hq
    unfold levelB at hv
    rw [hl] at hv
    simp only [Bool.and_eq_true, Bool.or_eq_true, decide_eq_true_eq] at hv
    refine ⟨hv.1.1.1.1, hv.1.1.1.2, ?_⟩
    by_cases hq1 : q < l.length - 1
    · rcases hv.2 with h1 | h1
      · exact absurd hq1 h1
      · exact h1
    · have e : q = l.length - 1 := by omega
      rw [e, hlast, hl, show l.length - 1 + 1 = l.length by omega, List.take_length]
  intro q
  induction q with
  | zero =>
    intro hq
    obtain ⟨b1, b2, b3⟩ := base 0 hq
    obtain ⟨i, hi⟩ : ∃ i : Nat, l.getD 0 0 = i := ⟨(l.getD 0 0).toNat, by omega⟩
    rw [hi] at b2 b3
    obtain ⟨p1, p2, p3, p4, p5, -, -⟩ := good_parts h (i := i) (by omega)
    have hoff : (c.de i).offset = 0 := by
      rw [p5]; unfold beforeD
      rw [b3, if_neg (by rw [List.length_take]; omega)]
    exact ⟨by rw [hi, hoff]; rfl, by rw [hi]; exact b3, b1, by rw [hi]; exact b2, by rw [hi]; exact p1, by rw [hi]; exact p2, by rw [hi]; omega⟩
  | succ q ih =>
    intro hq
    have hp := ih (by omega)
    obtain ⟨b1, b2, b3⟩ := base (q + 1) hq
    obtain ⟨i, hi⟩ : ∃ i : Nat, l.getD (q + 1) 0 = i := ⟨(l.getD (q + 1) 0).toNat, by omega⟩
    rw [hi] at b2 b3
    obtain ⟨p1, p2, p3, p4, p5, -, -⟩ := good_parts h (i := i) (by omega)
    have hlen : (c.de i).chain.length = q + 2 := by rw [b3, List.length_take]; omega
    have hprev : (c.de i).chain.getD ((c.de i).chain.length - 2) 0 = l.getD q 0 := by
      rw [hlen, b3, List.getD_eq_getElem?_getD, List.getD_eq_getElem?_getD, show q + 2 - 2 = q by omega, List.getElem?_take, if_pos (by omega)]
    have hoff : (c.de i).offset = preS c (l.take (q + 1)) := by
      rw [p5]; unfold beforeD
      rw [hlen, if_pos (by omega), show q + 2 - 2 = (c.de i).chain.length - 2 by rw [hlen], hprev]
      have hx : l[q]? = some (l.getD q 0) := by
        rw [List.getD_eq_getElem?_getD, List.getElem?_eq_getElem (by omega)]; rfl
      rw [List.take_add_one, hx]
      show _ = preS c (l.take q ++ [l.getD q 0])
      rw [preS_snoc, ← hp.off]
      have h1 := hp.o1; have h2 := hp.c1; have h3 := hp.s1
      unfold wrap64; omega
    exact ⟨by rw [hi]; exact hoff, by rw [hi]; exact b3, b1, by rw [hi]; exact b2, by rw [hi]; exact p1, by rw [hi]; exact p2, by rw [hi]; omega⟩
/-- The descriptor so many levels up. -/
def upL (c : Co) : Nat → Int → Int
  | 0, a => a
  | n + 1, a => upL c n (c.de a).around
theorem upL_succ (c : Co) : ∀ (n : Nat) (a : Int), upL c (n + 1) a = (c.de (upL c n a)).around
  | 0, a => rfl
  | n + 1, a => upL_succ c n (c.de a).around
theorem orig_split (c : Co) (h : Good c) : ∀ (m n a : Nat) (l : List Int), a < c.descs.length → origL c (m + n) a = some l →
    ∃ l1 l2, origL c m a = some l1 ∧ origL c n (upL c m a) = some l2 ∧ l = l1 ++ l2 ∧ ∀ k, k ≤ m → 0 ≤ upL c k a ∧ upL c k a < c.descs.length
  | 0, n, a, l, ha, ho => ⟨[], l, rfl, by rw [Nat.zero_add] at ho; exact ho, rfl, fun k hk => by
      obtain rfl : k = 0 := by omega
      exact ⟨by show (0 : Int) ≤ a; omega, by show (a : Int) < _; omega⟩⟩
  | m + 1, n, a, l, ha, ho => by
    rw [show m + 1 + n = (m + n) + 1 by omega] at ho
    unfold origL at ho
    by_cases hneg : (c.de a).around < 0
    · rw [if_pos hneg] at ho; cases ho
    · rw [if_neg hneg] at ho
      obtain ⟨l', hl', rfl⟩ := Option.map_eq_some_iff.1 ho
      have hga := (good_around h ha).1
      obtain ⟨a2, ha2⟩ : ∃ a2 : Nat, (c.de a).around = a2 := ⟨(c.de a).around.toNat, by omega⟩
      rw [ha2] at hl' hga
      obtain ⟨l1, l2, h1, h2, h3, h4⟩ := orig_split c h m n a2 l' (by omega) hl'
      refine ⟨(((c.de a).chain.length : Int) - 1) :: l1, l2, ?_, ?_, by rw [h3]; rfl, fun k hk => ?_⟩
      · unfold origL; rw [if_neg hneg, ha2, h1]; rfl
      · show origL c n (upL c m (c.de a).around) = _; rw [ha2]; exact h2
      · cases k with
        | zero => exact ⟨by show (0 : Int) ≤ a; omega, by show (a : Int) < _; omega⟩
        | succ k =>
          have := h4 k (by omega)
          show 0 ≤ upL c k (c.de a).around ∧ _
          rw [show upL c (k + 1) a = upL c k (c.de a).around from rfl, ha2]; exact this
end Go.Proofs.YtlaepkmnbbgbcaaGreatDoor
