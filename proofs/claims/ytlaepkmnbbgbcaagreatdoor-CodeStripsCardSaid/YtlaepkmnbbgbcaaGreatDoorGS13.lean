/- Small, fine. next, Next. (Written by wip/tools/genXA.py.) -/
import Derived.Test.YtlaepkmnbbgbcaaGreatDoorGB18
import Derived.Test.YtlaepkmnbbgbcaaGreatDoorGB9
/- Small, fine. -/
namespace Go.Proofs.YtlaepkmnbbgbcaaGreatDoor
open Go.RowKit Go.Instr Go.Shelf
set_option linter.unusedVariables false
set_option linter.unusedSimpArgs false
attribute [local go_sem] Oper.semAt_some

def smallD (d : De) : Bool := decide (d.chain.length ≤ 60) && decide (d.up.length ≤ 60) && decide (d.virts.length ≤ 40)
def smallB (c : Co) : Bool :=
  decide (c.instrs.length ≤ 300) && decide (c.descs.length ≤ 40) && decide (c.labels.length ≤ 40) && decide (c.texts.length ≤ 40) && decide (c.reals.length ≤ 40) && c.descs.all smallD && c.texts.all fun s => decide (s.size ≤ 2100)
theorem small_big {c : Co} (h : smallB c = true) : Big c := by
  unfold smallB smallD at h
  simp only [Bool.and_eq_true, decide_eq_true_eq, List.all_eq_true] at h
  obtain ⟨⟨⟨⟨⟨⟨h1, h2⟩, h3⟩, h4⟩, h5⟩, h6⟩, h7⟩ := h
  exact ⟨by omega, by omega, by omega, by omega, by omega, fun s hs => by have := h7 s hs; omega, fun d hd => by have := h6 d hd; omega⟩
set_option maxRecDepth 100000 in
set_option maxHeartbeats 8000000 in
theorem Small_any {w : World} {dv lv tv rv iv : Value} {c : Co} {xs : List DeV} (h : RdCo w dv lv tv rv iv c xs) :
    Calls Tryz.prog 12 #[codeV dv lv tv rv iv] w fun e w' => e = .returned (.bool (smallB c)) ∧ Ex w w' := by
  obtain ⟨W1, hW1⟩ : ∃ W1, w.alloc (.cells #[dv, lv, tv, rv, iv] 28) = W1 := ⟨_, rfl⟩
  obtain ⟨b0, hb0⟩ : ∃ b0, w.heap.size = b0 := ⟨_, rfl⟩
  have hX1 : Ex w W1 := by rw [← hW1]; exact (Keeps.refl _ w).alloc _
  have hB0 : Blk W1 b0 #[dv, lv, tv, rv, iv] 28 := by rw [← hW1, ← hb0]; exact Blk.new w _ _
  obtain ⟨da, dc, rfl, -, hd1, -⟩ := id h.ds
  obtain ⟨la, lc, rfl, -⟩ := id h.ls
  obtain ⟨ta, tc, rfl, -, ht1, -⟩ := id h.ts
  obtain ⟨ra, rc, rfl, -⟩ := id h.rs
  obtain ⟨ia, ic, rfl, -⟩ := id h.is
  have hxl := h.len
  rw [hxl] at hB0 hW1
  have hR := h.ext hX1
  obtain ⟨nd, hnd⟩ : ∃ n, c.descs.length = n := ⟨_, rfl⟩
  obtain ⟨nl, hnl⟩ : ∃ n, c.labels.length = n := ⟨_, rfl⟩
  obtain ⟨nt, hnt⟩ : ∃ n, c.texts.length = n := ⟨_, rfl⟩
  obtain ⟨nr, hnr⟩ : ∃ n, c.reals.length = n := ⟨_, rfl⟩
  obtain ⟨ni, hni⟩ : ∃ n, c.instrs.length = n := ⟨_, rfl⟩
  rw [hnd, hnl, hnt, hnr, hni] at hB0 hW1
  have x0 : W1.cell? ⟨b0, 0, none⟩ = some (.slice da nd dc) := (hB0.cell 0).trans rfl
  have x1 : W1.cell? ⟨b0, 1, none⟩ = some (.slice la nl lc) := (hB0.cell 1).trans rfl
  have x2 : W1.cell? ⟨b0, 2, none⟩ = some (.slice ta nt tc) := (hB0.cell 2).trans rfl
  have x3 : W1.cell? ⟨b0, 3, none⟩ = some (.slice ra nr rc) := (hB0.cell 3).trans rfl
  have x4 : W1.cell? ⟨b0, 4, none⟩ = some (.slice ia ni ic) := (hB0.cell 4).trans rfl
  obtain ⟨B, hB⟩ : ∃ B, smallB c = B := ⟨_, rfl⟩
  rw [hB]
  have hBe : B = (decide (ni ≤ 300) && decide (nd ≤ 40) && decide (nl ≤ 40) && decide (nt ≤ 40) && decide (nr ≤ 40) && c.descs.all smallD && c.texts.all fun s => decide (s.size ≤ 2100)) := by
    rw [← hB, ← hnd, ← hnl, ← hnt, ← hnr, ← hni]; rfl
  have HX1 := Lib.hid hX1; have HR := Lib.hid hR; have HBe := Lib.hid hBe; have Hd1 := Lib.hid hd1; have Ht1 := Lib.hid ht1; have HW1 := Lib.hid hW1; have Hb0 := Lib.hid hb0; have Hnd := Lib.hid hnd; have Hnt := Lib.hid hnt; have Hxl := Lib.hid hxl
  rw [hxl, hnd, hnl, hnt, hnr, hni]
  clear hX1 hR hBe hd1 ht1 hB0 hW1 hb0 hnd hnl hnt hnr hni hxl hB h
  unfold codeV
  go_enter Tryz.func12, Tryz.ntmps12
  go_upto_region 1 with fail
  rw [HW1.out]
  try rw [Hb0.out]
  by_cases a0 : ni ≤ 300
  case neg =>
    have q : (300 : Int) < ni := by omega
    have hb : B = false := by rw [HBe.out]; simp; omega
    subst hb
    go_wp2_with fail
    go_ret
    exact ⟨rfl, HX1.out⟩
  have q0 : ¬ ((300 : Int) < ni) := by omega
  by_cases a1 : nd ≤ 40
  case neg =>
    have q : (40 : Int) < nd := by omega
    have hb : B = false := by rw [HBe.out]; simp; omega
    subst hb
    go_wp2_with fail
    go_ret
    exact ⟨rfl, HX1.out⟩
  have q1 : ¬ ((40 : Int) < nd) := by omega
  by_cases a2 : nl ≤ 40
  case neg =>
    have q : (40 : Int) < nl := by omega
    have hb : B = false := by rw [HBe.out]; simp; omega
    subst hb
    go_wp2_with fail
    go_ret
    exact ⟨rfl, HX1.out⟩
  have q2 : ¬ ((40 : Int) < nl) := by omega
  by_cases a3 : nt ≤ 40
  case neg =>
    have q : (40 : Int) < nt := by omega
    have hb : B = false := by rw [HBe.out]; simp; omega
    subst hb
    go_wp2_with fail
    go_ret
    exact ⟨rfl, HX1.out⟩
  have q3 : ¬ ((40 : Int) < nt) := by omega
  by_cases a4 : nr ≤ 40
  case neg =>
    have q : (40 : Int) < nr := by omega
    have hb : B = false := by rw [HBe.out]; simp; omega
    subst hb
    go_wp2_with fail
    go_ret
    exact ⟨rfl, HX1.out⟩
  have q4 : ¬ ((40 : Int) < nr) := by omega
  have HBe2 : Hid (B = (c.descs.all smallD && c.texts.all fun s => decide (s.size ≤ 2100))) := Lib.hid (by rw [HBe.out]; simp [a0, a1, a2, a3, a4])
  clear HBe
  go_wp2_with fail
  clear q0 q1 q2 q3 q4 a0 a2 a4
  go_loopw [3] (fun s wr => ∃ k : Nat, k ≤ nd ∧ s = .int .i64 k ∧ W1 = wr ∧ Hid (∀ j d, j < k → c.descs[j]? = some d → smallD d = true)) (fun s wr => nd - (intOf s).toNat)
  case atStart => exact ⟨0, Nat.zero_le _, rfl, rfl, Lib.hid (fun j d hj => by omega)⟩
  case round =>
    obtain ⟨k, hk, rfl, rfl, HQ⟩ := hrel
    by_cases hlt : k < nd
    case pos =>
      obtain ⟨ad, rfl⟩ : ∃ ad, da = some ad := by
        cases da with
        | none => have := Hd1.out rfl; have h2 := Hxl.out; rw [Hnd.out, this] at h2; simp at h2; omega
        | some ad => exact ⟨ad, rfl⟩
      obtain ⟨x, hx⟩ : ∃ x, xs[k]? = some x := ⟨_, List.getElem?_eq_getElem (by rw [Hxl.out, Hnd.out]; exact hlt)⟩
      have hxd : c.descs[k]? = some x.d := by rw [← HR.out.eq, List.getElem?_map, hx]; rfl
      have hD := HR.out.de x (List.mem_of_getElem? hx)
      obtain ⟨A, hA⟩ : ∃ A, ad.add (k * 11) = A := ⟨_, rfl⟩
      obtain ⟨e0, e1, e2, e3, e4, e5, e6, e7, e8, e9, e10⟩ := HR.out.ds.deCells hx hA
      obtain ⟨d, cv, uv, vv⟩ := x
      obtain ⟨ca, cc, ec, -⟩ := id hD.chain
      obtain ⟨ua, uc, eu, -⟩ := id hD.up
      obtain ⟨va, vc, ev, -⟩ := id hD.virts
      simp only at ec eu ev hxd e1 e2 e5
      subst ec; subst eu; subst ev
      obtain ⟨m1, hm1⟩ : ∃ m, d.chain.length = m := ⟨_, rfl⟩
      obtain ⟨m2, hm2⟩ : ∃ m, d.up.length = m := ⟨_, rfl⟩
      obtain ⟨m3, hm3⟩ : ∃ m, d.virts.length = m := ⟨_, rfl⟩
      rw [hm1] at e1; rw [hm2] at e2; rw [hm3] at e5
      have hsd : smallD d = (decide (m1 ≤ 60) && decide (m2 ≤ 60) && decide (m3 ≤ 40)) := by unfold smallD; rw [hm1, hm2, hm3]
      have HS := Lib.hid hsd; have Hxd := Lib.hid hxd
      have hbf : smallD d = false → B = false := fun h => by
        rw [HBe2.out, Bool.and_eq_false_iff]; left
        rw [List.all_eq_false]; exact ⟨d, List.mem_of_getElem? hxd, by rw [h]; simp⟩
      have HBf := Lib.hid hbf
      clear e0 e3 e4 e6 e7 e8 e9 e10 hD hx hxd hsd hm1 hm2 hm3 hbf
      by_cases c0 : m1 ≤ 60
      case neg =>
        have q : (60 : Int) < m1 := by omega
        have hb := HBf.out (by rw [HS.out]; simp; omega)
        subst hb
        go_wp2_with fail
        go_ret
        exact ⟨rfl, HX1.out⟩
      have q0 : ¬ ((60 : Int) < m1) := by omega
      by_cases c1 : m2 ≤ 60
      case neg =>
        have q : (60 : Int) < m2 := by omega
        have hb := HBf.out (by rw [HS.out]; simp; omega)
        subst hb
        go_wp2_with fail
        go_ret
        exact ⟨rfl, HX1.out⟩
      have q1 : ¬ ((60 : Int) < m2) := by omega
      by_cases c2 : m3 ≤ 40
      case neg =>
        have q : (40 : Int) < m3 := by omega
        have hb := HBf.out (by rw [HS.out]; simp; omega)
        subst hb
        go_wp2_with fail
        go_ret
        exact ⟨rfl, HX1.out⟩
      have q2 : ¬ ((40 : Int) < m3) := by omega
      have HQ2 : Hid (∀ j d, j < k + 1 → c.descs[j]? = some d → smallD d = true) := Lib.hid (fun j z hj hz => by
        by_cases e : j = k
        · subst e; rw [Hxd.out] at hz; injection hz with hz; rw [← hz, HS.out]; simp [c0, c1, c2]
        · exact HQ.out j z (by omega) hz)
      go_wp2_with fail
      exact ⟨⟨k + 1, by omega, by go_num, by first | rfl | trivial, HQ2⟩, by show nd - ((k : Int) + 1).toNat < nd - ((k : Nat) : Int).toNat; omega⟩
    case neg =>
      have hkn : k = nd := by omega
      subst hkn
      have HBe3 : Hid (B = c.texts.all fun s => decide (s.size ≤ 2100)) := Lib.hid (by
        have : c.descs.all smallD = true := List.all_eq_true.2 fun d hd => by
          obtain ⟨j, hj⟩ := List.getElem?_of_mem hd
          exact HQ.out j d (by rw [← Hnd.out]; exact (List.getElem?_eq_some_iff.1 hj).1) hj
        rw [HBe2.out, this]; rfl)
      clear HBe2 HQ
      go_wp2_with fail
      go_loopw [4] (fun s wr => ∃ k : Nat, k ≤ nt ∧ s = .int .i64 k ∧ W1 = wr ∧ Hid (∀ j d, j < k → c.texts[j]? = some d → d.size ≤ 2100)) (fun s wr => nt - (intOf s).toNat)
      case atStart => exact ⟨0, Nat.zero_le _, rfl, rfl, Lib.hid (fun j d hj => by omega)⟩
      case round =>
        obtain ⟨k2, hk2, rfl, rfl, HQ⟩ := hrel
        by_cases hlt2 : k2 < nt
        case pos =>
          obtain ⟨ad, rfl⟩ : ∃ ad, ta = some ad := by
            cases ta with
            | none => have := Ht1.out rfl; have h2 := Hnt.out; rw [this] at h2; simp at h2; omega
            | some ad => exact ⟨ad, rfl⟩
          obtain ⟨x, hx⟩ : ∃ x, c.texts[k2]? = some x := ⟨_, List.getElem?_eq_getElem (by rw [Hnt.out]; exact hlt2)⟩
          have z0 := HR.out.ts.at encS_len hx 0 (by omega)
          rw [Addr.add_zero', Nat.mul_one] at z0
          have z : W1.cell? (ad.add k2) = some (.string x) := z0
          have Hx := Lib.hid hx
          clear z0 hx
          by_cases a0 : x.size ≤ 2100
          case neg =>
            have q : (2100 : Int) < x.size := by omega
            have hb : B = false := by
              rw [HBe3.out, List.all_eq_false]; exact ⟨x, List.mem_of_getElem? Hx.out, by simpa using a0⟩
            subst hb
            go_wp2_with fail
            go_ret
            exact ⟨rfl, HX1.out⟩
          have q0 : ¬ ((2100 : Int) < x.size) := by omega
          have HQ2 : Hid (∀ j d, j < k2 + 1 → c.texts[j]? = some d → d.size ≤ 2100) := Lib.hid (fun j z hj hz => by
            by_cases e : j = k2
            · subst e; rw [Hx.out] at hz; injection hz with hz; rw [← hz]; exact a0
            · exact HQ.out j z (by omega) hz)
          go_wp2_with fail
          exact ⟨⟨k2 + 1, by omega, by go_num, by first | rfl | trivial, HQ2⟩, by show nt - ((k2 : Int) + 1).toNat < nt - ((k2 : Nat) : Int).toNat; omega⟩
        case neg =>
          have hkn2 : k2 = nt := by omega
          subst hkn2
          have hb : B = true := by
            rw [HBe3.out]
            exact List.all_eq_true.2 fun d hd => by
              obtain ⟨j, hj⟩ := List.getElem?_of_mem hd
              exact decide_eq_true (HQ.out j d (by rw [← Hnt.out]; exact (List.getElem?_eq_some_iff.1 hj).1) hj)
          subst hb
          clear HQ
          go_wp2_with fail
          go_ret
          exact ⟨rfl, HX1.out⟩
/-- fine. -/
def fineB (c : Co) : Bool := smallB c && decide ((chk c).1 = 0)
set_option maxRecDepth 100000 in
theorem fine_any {w : World} {dv lv tv rv iv : Value} {c : Co} {xs : List DeV} (h : RdCo w dv lv tv rv iv c xs) :
    Calls Tryz.prog 22 #[codeV dv lv tv rv iv] w fun e w' => e = .returned (.bool (fineB c)) ∧ Ex w w' := by
  obtain ⟨W1, hW1⟩ : ∃ W1, w.alloc (.cells #[dv, lv, tv, rv, iv] 28) = W1 := ⟨_, rfl⟩
  obtain ⟨b0, hb0⟩ : ∃ b0, w.heap.size = b0 := ⟨_, rfl⟩
  have hX1 : Ex w W1 := by rw [← hW1]; exact (Keeps.refl _ w).alloc _
  have hB0 : Blk W1 b0 #[dv, lv, tv, rv, iv] 28 := by rw [← hW1, ← hb0]; exact Blk.new w _ _
  have hs := Small_any (h.ext hX1)
  have HC : Hid (smallB c = true → ∀ V, Ex W1 V → Calls Tryz.prog 26 #[codeV dv lv tv rv iv] V (ChkR V c)) := Lib.hid (fun hb V hV => Check_any ((h.ext hX1).ext hV) (small_big hb))
  obtain ⟨da, dc, rfl, -⟩ := id h.ds
  obtain ⟨la, lc, rfl, -⟩ := id h.ls
  obtain ⟨ta, tc, rfl, -⟩ := id h.ts
  obtain ⟨ra, rc, rfl, -⟩ := id h.rs
  obtain ⟨ia, ic, rfl, -⟩ := id h.is
  have HF0 : ∀ V, Ex W1 V → Hid (V.cell? ⟨b0, 0, none⟩ = some (.slice da xs.length dc) ∧ V.cell? ⟨b0, 1, none⟩ = some (.slice la c.labels.length lc) ∧ V.cell? ⟨b0, 2, none⟩ = some (.slice ta c.texts.length tc) ∧ V.cell? ⟨b0, 3, none⟩ = some (.slice ra c.reals.length rc) ∧ V.cell? ⟨b0, 4, none⟩ = some (.slice ia c.instrs.length ic)) := fun V hV =>
    ⟨((hV.blk hB0 id).cell 0).trans rfl, ((hV.blk hB0 id).cell 1).trans rfl, ((hV.blk hB0 id).cell 2).trans rfl, ((hV.blk hB0 id).cell 3).trans rfl, ((hV.blk hB0 id).cell 4).trans rfl⟩
  obtain ⟨x0, x1, x2, x3, x4⟩ := (HF0 W1 (Keeps.refl _ _)).out
  unfold codeV at hs HC ⊢
  have HS := Lib.hid hs; have HX1 := Lib.hid hX1; have HW1 := Lib.hid hW1; have Hb0 := Lib.hid hb0
  clear hs hX1 hB0 hW1 hb0 h
  generalize hM : (fun (e : Ending) (w' : World) => e = .returned (.bool (fineB c)) ∧ Ex w w') = M
  have HM := Lib.hid hM
  clear hM
  go_enter Tryz.func22, Tryz.ntmps22
  go_upto_region 1 with fail
  rw [HW1.out]
  try rw [Hb0.out]
  cases hb : smallB c with
  | false =>
    have HB := Lib.hid hb
    clear hb
    go_wp2_with (go_at_call 12; refine HS.out.mono ?_; rintro e w2 ⟨rfl, hx⟩; have HX2 := Lib.hid (HX1.out.trans hx); clear hx; rw [HB.out])
    rw [← HM.out]
    exact ⟨by unfold fineB; rw [HB.out]; rfl, HX2.out⟩
  | true =>
    have HB := Lib.hid hb
    clear hb
    go_upto_region 3 with (go_at_call 12; refine HS.out.mono ?_; rintro e w2 ⟨rfl, hx⟩; have HX2 := Lib.hid hx; clear hx; rw [HB.out])
    clear x0 x1 x2 x3 x4
    obtain ⟨x0, x1, x2, x3, x4⟩ := (HF0 w2 HX2.out).out
    go_wp2_with fail
    refine (HC.out HB.out w2 HX2.out).mono ?_
    rintro e w3 ⟨rfl, hx3⟩
    have HX3 := Lib.hid (HX1.out.trans (HX2.out.trans hx3))
    clear hx3
    by_cases hz : (chk c).1 = 0
    · have HZ := Lib.hid hz
      go_wp2_with fail
      rw [← HM.out]
      exact ⟨by unfold fineB; rw [HB.out, HZ.out]; rfl, HX3.out⟩
    · have HZ := Lib.hid hz
      go_wp2_with fail
      rw [← HM.out]
      exact ⟨by unfold fineB; rw [HB.out, decide_eq_false HZ.out]; simp [HZ.out], HX3.out⟩
end Go.Proofs.YtlaepkmnbbgbcaaGreatDoor
/- next, Next. (Written by wip/tools/genXA.py.) -/
namespace Go.Proofs.YtlaepkmnbbgbcaaGreatDoor
open Go.RowKit Go.Instr Go.Sort
set_option linter.unusedVariables false
set_option linter.unusedSimpArgs false
attribute [local go_sem] Oper.semAt_some

def stops (op : Int) : Bool := decide (op = 36) || decide (op = 46) || decide (op = 47) || decide (op = 54) || decide (op = 55)
def nextRaw (x : Ins) (a : Int) : List Int := if stops x.op then [] else if x.op = 42 then [x.a] else if x.op = 43 then [x.a, a + 1] else [a + 1]
def nextL (c : Co) (a : Nat) : List Int := uniq ((nextRaw (c.instrs.getD a default) a).filter fun n => !decide ((c.instrs.length : Int) ≤ n))
theorem enters_next1 (args : Array Value) (w : World) : (callFunc 133 args).run Tryz.prog w = .ok (.enter 133 args) w := enters_of Tryz.func133 (by kernel_rfl) rfl args w
theorem next1_any {V : World} {b0 n ic : Nat} {ia : Option Addr} (hk : V.cell? ⟨b0, 4, none⟩ = some (.slice ia n ic)) (x : Int) :
    Calls Tryz.prog 133 (#[.int .i64 x] ++ #[.pointer (some ⟨b0, 0, none⟩)]) V fun e w' => e = .returned (.bool (decide ((n : Int) ≤ x))) ∧ ∃ q, w' = V.drewN q := by
  show Calls Tryz.prog 133 #[.int .i64 x, .pointer (some ⟨b0, 0, none⟩)] V _
  go_enter Tryz.func133, Tryz.ntmps133
  go_wp2
  go_ret
  exact ⟨rfl, 0, rfl⟩
theorem uniq_len (l : List Int) : (uniq l).length ≤ l.length := by
  have h := Lib.compact_length_le (l.mergeSort fun x y => decide (x ≤ y))
  rw [List.length_mergeSort] at h
  exact h
set_option maxRecDepth 100000 in
set_option maxHeartbeats 8000000 in
theorem next_any {w : World} {dv lv tv rv iv : Value} {c : Co} {xs : List DeV} (h : RdCo w dv lv tv rv iv c xs) (hn : c.instrs.length ≤ 1000000) {a : Nat} (ha : a < c.instrs.length) :
    Calls Tryz.prog 92 #[codeV dv lv tv rv iv, .int .i64 a] w fun e w' => ∃ v, e = .returned v ∧ OwnI w' w.heap.size v (nextL c a) ∧ Ex w w' := by
  obtain ⟨W1, hW1⟩ : ∃ W1, w.alloc (.cells #[dv, lv, tv, rv, iv] 28) = W1 := ⟨_, rfl⟩
  obtain ⟨b0, hb0⟩ : ∃ b0, w.heap.size = b0 := ⟨_, rfl⟩
  have hX1 : Ex w W1 := by rw [← hW1]; exact (Keeps.refl _ w).alloc _
  have hB0 : Blk W1 b0 #[dv, lv, tv, rv, iv] 28 := by rw [← hW1, ← hb0]; exact Blk.new w _ _
  have hs1 : W1.heap.size = b0 + 1 := by rw [← hW1, ← hb0, World.size_alloc]
  obtain ⟨da, dc, rfl, -⟩ := id h.ds
  obtain ⟨la, lc, rfl, -⟩ := id h.ls
  obtain ⟨ta, tc, rfl, -⟩ := id h.ts
  obtain ⟨ra, rc, rfl, -⟩ := id h.rs
  obtain ⟨ia, ic, rfl, -, hi1, -⟩ := id h.is
  obtain ⟨iad, rfl⟩ : ∃ ad, ia = some ad := by
    cases ia with
    | none => have := hi1 rfl; rw [this] at ha; simp at ha
    | some ad => exact ⟨ad, rfl⟩
  obtain ⟨x, hx⟩ : ∃ x, c.instrs[a]? = some x := ⟨_, List.getElem?_eq_getElem ha⟩
  have hxd : c.instrs.getD a default = x := by rw [List.getD_eq_getElem?_getD, hx]; rfl
  obtain ⟨A, hA⟩ : ∃ A, iad.add (a * 3) = A := ⟨_, rfl⟩
  obtain ⟨z0, z1, z2⟩ := (h.is.ext hX1).insCells hx hA
  obtain ⟨ni, hni⟩ : ∃ n, c.instrs.length = n := ⟨_, rfl⟩
  rw [hni] at hn ha hB0 hW1 ⊢
  have x4 : W1.cell? ⟨b0, 4, none⟩ = some (.slice (some iad) ni ic) := (hB0.cell 4).trans rfl
  obtain ⟨W2, hW2⟩ : ∃ W2, W1.alloc (.cells #[.int .i64 x.op, .int .i64 x.a, .int .i64 x.b] 82) = W2 := ⟨_, rfl⟩
  have hX12 : Ex W1 W2 := by rw [← hW2]; exact (Keeps.refl _ W1).alloc _
  have hB2 : Blk W2 (b0 + 1) #[.int .i64 x.op, .int .i64 x.a, .int .i64 x.b] 82 := by rw [← hW2, ← hs1]; exact Blk.new W1 _ _
  have hs2 : W2.heap.size = b0 + 2 := by rw [← hW2, World.size_alloc, hs1]
  have y0 : W2.cell? ⟨b0 + 1, 0, none⟩ = some (.int .i64 x.op) := (hB2.cell 0).trans rfl
  have y1 : W2.cell? ⟨b0 + 1, 1, none⟩ = some (.int .i64 x.a) := (hB2.cell 1).trans rfl
  have hmf : ∀ (fn : Fn) (first cap : Array Value) (w : World), (Instr.makeFunc fn first cap).run Tryz.prog w = .ok (.func fn first cap) w := fun _ _ _ _ => rfl
  have HX1 := Lib.hid hX1; have HW1 := Lib.hid hW1; have Hb0 := Lib.hid hb0; have HB0 := Lib.hid hB0; have Hs1 := Lib.hid hs1; have HX12 := Lib.hid hX12; have HW2 := Lib.hid hW2; have Hs2 := Lib.hid hs2; have Hxd := Lib.hid hxd; have Hni := Lib.hid hni
  clear hX1 hW1 hb0 hB0 hs1 hX12 hB2 hW2 hs2 hxd hni hi1 hx h
  unfold codeV
  generalize hM : (fun (e : Ending) (w' : World) => ∃ v, e = .returned v ∧ OwnI w' w.heap.size v (nextL c a) ∧ Ex w w') = M
  have HM := Lib.hid hM
  clear hM
  have HFin : ∀ (L : List Int) (v : Value) (W : World), L.length ≤ 2 → nextRaw x a = L → OwnI W (b0 + 1) v L → Ex W1 W → Hid (Calls Tryz.prog 88 #[v, .func (.func 133) #[] #[.pointer (some ⟨b0, 0, none⟩)]] W fun e w' => ∃ v', e = .returned v' ∧ OwnI w' (b0 + 1) v' (L.filter fun n => !decide ((ni : Int) ≤ n)) ∧ v'.ownBlock = v.ownBlock ∧ ExV v W w') := by
    intro L v W hL hraw ho hx
    refine Lib.hid (delI_any enters_next1 ho (p := fun n => decide ((ni : Int) ≤ n)) (fun V y hV => ?_))
    refine next1_any (ia := some iad) (ic := ic) ?_ y
    have hb := hx.blk HB0.out id
    have hne : v.ownBlock ≠ some b0 := fun e => by have := (World.ownsRow.lt ho b0 e).1; omega
    have hbV : Blk V b0 #[.slice da xs.length dc, .slice la c.labels.length lc, .slice ta c.texts.length tc, .slice ra c.reals.length rc, .slice (some iad) ni ic] 28 := by
      unfold Blk; rw [hV b0 hb.lt hne]; exact hb
    exact (hbV.cell 4).trans rfl
  go_enter Tryz.func92, Tryz.ntmps92
  go_upto_region 1 with fail
  rw [HW1.out]
  try rw [Hb0.out]
  go_upto_region 2 with fail
  rw [HW2.out]
  try rw [Hs1.out]
  clear x4 z0 z1 z2
  by_cases h36 : x.op = 36
  case pos =>
    have HRaw : Hid (nextRaw x a = []) := Lib.hid (by unfold nextRaw stops; simp [h36])
    rw [h36] at y0
    have HX3 := HX12
    have HO3 : Hid (OwnI W2 (b0 + 1) (.slice none 0 0) []) := Lib.hid (World.ownsRow_nil _ _ _ _)
    have HD := HFin [] (.slice none 0 0) W2 (by simp) HRaw.out HO3.out HX3.out
    go_wp2_with fail
    refine HD.out.mono ?_
    rintro e w4 ⟨v4, rfl, ho4, hb4, hx4⟩
    have HO4 := Lib.hid ho4
    have HX4 : Hid (Ex W1 w4) := Lib.hid (HX3.out.ex HO3.out (by rw [Hs1.out]; exact Nat.le_refl _) hx4)
    clear ho4 hb4 hx4 HD
    go_wp2_with fail
    refine (sortI_any HO4.out (Nat.le_trans (List.length_filter_le _ _) (by simp))).mono ?_
    rintro e w5 ⟨rfl, ho5, hx5⟩
    have HO5 := Lib.hid ho5
    have HX5 : Hid (Ex W1 w5) := Lib.hid (HX4.out.ex HO4.out (by rw [Hs1.out]; exact Nat.le_refl _) hx5)
    clear ho5 hx5
    go_wp2_with fail
    refine (compactI_any HO5.out).mono ?_
    rintro e w6 ⟨v6, rfl, ho6, hb6, hx6⟩
    have HO6 := Lib.hid ho6
    have HX6 : Hid (Ex W1 w6) := Lib.hid (HX5.out.ex HO5.out (by rw [Hs1.out]; exact Nat.le_refl _) hx6)
    clear ho6 hb6 hx6
    go_wp2_with fail
    rw [← HM.out]
    refine ⟨v6, rfl, ?_, HX1.out.trans HX6.out⟩
    have h9 : nextL c a = Lib.compact ((([] : List Int).filter fun n => !decide ((ni : Int) ≤ n)).mergeSort fun x y => decide (x ≤ y)) := by unfold nextL uniq; rw [Hxd.out, Hni.out, HRaw.out]
    rw [h9, Hb0.out]
    exact HO6.out.low (by omega)
  have k36 : (x.op == 36) = false := by simpa using h36
  by_cases h46 : x.op = 46
  case pos =>
    have HRaw : Hid (nextRaw x a = []) := Lib.hid (by unfold nextRaw stops; simp [h46])
    rw [h46] at y0
    have HX3 := HX12
    have HO3 : Hid (OwnI W2 (b0 + 1) (.slice none 0 0) []) := Lib.hid (World.ownsRow_nil _ _ _ _)
    have HD := HFin [] (.slice none 0 0) W2 (by simp) HRaw.out HO3.out HX3.out
    go_wp2_with fail
    refine HD.out.mono ?_
    rintro e w4 ⟨v4, rfl, ho4, hb4, hx4⟩
    have HO4 := Lib.hid ho4
    have HX4 : Hid (Ex W1 w4) := Lib.hid (HX3.out.ex HO3.out (by rw [Hs1.out]; exact Nat.le_refl _) hx4)
    clear ho4 hb4 hx4 HD
    go_wp2_with fail
    refine (sortI_any HO4.out (Nat.le_trans (List.length_filter_le _ _) (by simp))).mono ?_
    rintro e w5 ⟨rfl, ho5, hx5⟩
    have HO5 := Lib.hid ho5
    have HX5 : Hid (Ex W1 w5) := Lib.hid (HX4.out.ex HO4.out (by rw [Hs1.out]; exact Nat.le_refl _) hx5)
    clear ho5 hx5
    go_wp2_with fail
    refine (compactI_any HO5.out).mono ?_
    rintro e w6 ⟨v6, rfl, ho6, hb6, hx6⟩
    have HO6 := Lib.hid ho6
    have HX6 : Hid (Ex W1 w6) := Lib.hid (HX5.out.ex HO5.out (by rw [Hs1.out]; exact Nat.le_refl _) hx6)
    clear ho6 hb6 hx6
    go_wp2_with fail
    rw [← HM.out]
    refine ⟨v6, rfl, ?_, HX1.out.trans HX6.out⟩
    have h9 : nextL c a = Lib.compact ((([] : List Int).filter fun n => !decide ((ni : Int) ≤ n)).mergeSort fun x y => decide (x ≤ y)) := by unfold nextL uniq; rw [Hxd.out, Hni.out, HRaw.out]
    rw [h9, Hb0.out]
    exact HO6.out.low (by omega)
  have k46 : (x.op == 46) = false := by simpa using h46
  by_cases h47 : x.op = 47
  case pos =>
    have HRaw : Hid (nextRaw x a = []) := Lib.hid (by unfold nextRaw stops; simp [h47])
    rw [h47] at y0
    have HX3 := HX12
    have HO3 : Hid (OwnI W2 (b0 + 1) (.slice none 0 0) []) := Lib.hid (World.ownsRow_nil _ _ _ _)
    have HD := HFin [] (.slice none 0 0) W2 (by simp) HRaw.out HO3.out HX3.out
    go_wp2_with fail
    refine HD.out.mono ?_
    rintro e w4 ⟨v4, rfl, ho4, hb4, hx4⟩
    have HO4 := Lib.hid ho4
    have HX4 : Hid (Ex W1 w4) := Lib.hid (HX3.out.ex HO3.out (by rw [Hs1.out]; exact Nat.le_refl _) hx4)
    clear ho4 hb4 hx4 HD
    go_wp2_with fail
    refine (sortI_any HO4.out (Nat.le_trans (List.length_filter_le _ _) (by simp))).mono ?_
    rintro e w5 ⟨rfl, ho5, hx5⟩
    have HO5 := Lib.hid ho5
    have HX5 : Hid (Ex W1 w5) := Lib.hid (HX4.out.ex HO4.out (by rw [Hs1.out]; exact Nat.le_refl _) hx5)
    clear ho5 hx5
    go_wp2_with fail
    refine (compactI_any HO5.out).mono ?_
    rintro e w6 ⟨v6, rfl, ho6, hb6, hx6⟩
    have HO6 := Lib.hid ho6
    have HX6 : Hid (Ex W1 w6) := Lib.hid (HX5.out.ex HO5.out (by rw [Hs1.out]; exact Nat.le_refl _) hx6)
    clear ho6 hb6 hx6
    go_wp2_with fail
    rw [← HM.out]
    refine ⟨v6, rfl, ?_, HX1.out.trans HX6.out⟩
    have h9 : nextL c a = Lib.compact ((([] : List Int).filter fun n => !decide ((ni : Int) ≤ n)).mergeSort fun x y => decide (x ≤ y)) := by unfold nextL uniq; rw [Hxd.out, Hni.out, HRaw.out]
    rw [h9, Hb0.out]
    exact HO6.out.low (by omega)
  have k47 : (x.op == 47) = false := by simpa using h47
  by_cases h54 : x.op = 54
  case pos =>
    have HRaw : Hid (nextRaw x a = []) := Lib.hid (by unfold nextRaw stops; simp [h54])
    rw [h54] at y0
    have HX3 := HX12
    have HO3 : Hid (OwnI W2 (b0 + 1) (.slice none 0 0) []) := Lib.hid (World.ownsRow_nil _ _ _ _)
    have HD := HFin [] (.slice none 0 0) W2 (by simp) HRaw.out HO3.out HX3.out
    go_wp2_with fail
    refine HD.out.mono ?_
    rintro e w4 ⟨v4, rfl, ho4, hb4, hx4⟩
    have HO4 := Lib.hid ho4
    have HX4 : Hid (Ex W1 w4) := Lib.hid (HX3.out.ex HO3.out (by rw [Hs1.out]; exact Nat.le_refl _) hx4)
    clear ho4 hb4 hx4 HD
    go_wp2_with fail
    refine (sortI_any HO4.out (Nat.le_trans (List.length_filter_le _ _) (by simp))).mono ?_
    rintro e w5 ⟨rfl, ho5, hx5⟩
    have HO5 := Lib.hid ho5
    have HX5 : Hid (Ex W1 w5) := Lib.hid (HX4.out.ex HO4.out (by rw [Hs1.out]; exact Nat.le_refl _) hx5)
    clear ho5 hx5
    go_wp2_with fail
    refine (compactI_any HO5.out).mono ?_
    rintro e w6 ⟨v6, rfl, ho6, hb6, hx6⟩
    have HO6 := Lib.hid ho6
    have HX6 : Hid (Ex W1 w6) := Lib.hid (HX5.out.ex HO5.out (by rw [Hs1.out]; exact Nat.le_refl _) hx6)
    clear ho6 hb6 hx6
    go_wp2_with fail
    rw [← HM.out]
    refine ⟨v6, rfl, ?_, HX1.out.trans HX6.out⟩
    have h9 : nextL c a = Lib.compact ((([] : List Int).filter fun n => !decide ((ni : Int) ≤ n)).mergeSort fun x y => decide (x ≤ y)) := by unfold nextL uniq; rw [Hxd.out, Hni.out, HRaw.out]
    rw [h9, Hb0.out]
    exact HO6.out.low (by omega)
  have k54 : (x.op == 54) = false := by simpa using h54
  by_cases h55 : x.op = 55
  case pos =>
    have HRaw : Hid (nextRaw x a = []) := Lib.hid (by unfold nextRaw stops; simp [h55])
    rw [h55] at y0
    have HX3 := HX12
    have HO3 : Hid (OwnI W2 (b0 + 1) (.slice none 0 0) []) := Lib.hid (World.ownsRow_nil _ _ _ _)
    have HD := HFin [] (.slice none 0 0) W2 (by simp) HRaw.out HO3.out HX3.out
    go_wp2_with fail
    refine HD.out.mono ?_
    rintro e w4 ⟨v4, rfl, ho4, hb4, hx4⟩
    have HO4 := Lib.hid ho4
    have HX4 : Hid (Ex W1 w4) := Lib.hid (HX3.out.ex HO3.out (by rw [Hs1.out]; exact Nat.le_refl _) hx4)
    clear ho4 hb4 hx4 HD
    go_wp2_with fail
    refine (sortI_any HO4.out (Nat.le_trans (List.length_filter_le _ _) (by simp))).mono ?_
    rintro e w5 ⟨rfl, ho5, hx5⟩
    have HO5 := Lib.hid ho5
    have HX5 : Hid (Ex W1 w5) := Lib.hid (HX4.out.ex HO4.out (by rw [Hs1.out]; exact Nat.le_refl _) hx5)
    clear ho5 hx5
    go_wp2_with fail
    refine (compactI_any HO5.out).mono ?_
    rintro e w6 ⟨v6, rfl, ho6, hb6, hx6⟩
    have HO6 := Lib.hid ho6
    have HX6 : Hid (Ex W1 w6) := Lib.hid (HX5.out.ex HO5.out (by rw [Hs1.out]; exact Nat.le_refl _) hx6)
    clear ho6 hb6 hx6
    go_wp2_with fail
    rw [← HM.out]
    refine ⟨v6, rfl, ?_, HX1.out.trans HX6.out⟩
    have h9 : nextL c a = Lib.compact ((([] : List Int).filter fun n => !decide ((ni : Int) ≤ n)).mergeSort fun x y => decide (x ≤ y)) := by unfold nextL uniq; rw [Hxd.out, Hni.out, HRaw.out]
    rw [h9, Hb0.out]
    exact HO6.out.low (by omega)
  have k55 : (x.op == 55) = false := by simpa using h55
  have HSt : Hid (stops x.op = false) := Lib.hid (by unfold stops; simp [h36, h46, h47, h54, h55])
  by_cases h42 : x.op = 42
  case pos =>
    have HRaw : Hid (nextRaw x a = [x.a]) := Lib.hid (by unfold nextRaw; rw [HSt.out]; simp [h42])
    rw [h42] at y0
    obtain ⟨W3, hW3⟩ : ∃ W3, W2.alloc (.cells #[.int .i64 (x.a)] 3) = W3 := ⟨_, rfl⟩
    have hX3 : Ex W1 W3 := by rw [← hW3]; exact HX12.out.alloc _
    have hO3 : OwnI W3 (b0 + 1) (.slice (some ⟨b0 + 2, 0, none⟩) 1 1) [x.a] := by rw [← hW3, ← Hs2.out]; exact Blk.ownI (l := [x.a]) (Blk.new W2 _ _) (by rw [Hs2.out]; omega) (by simp)
    have HX3 := Lib.hid hX3; have HO3 := Lib.hid hO3; have HW3 := Lib.hid hW3
    clear hX3 hO3 hW3
    have HD := HFin [x.a] (.slice (some ⟨b0 + 2, 0, none⟩) 1 1) W3 (by simp) HRaw.out HO3.out HX3.out
    go_wp2_with fail
    rw [HW3.out]
    try rw [Hs2.out]
    refine HD.out.mono ?_
    rintro e w4 ⟨v4, rfl, ho4, hb4, hx4⟩
    have HO4 := Lib.hid ho4
    have HX4 : Hid (Ex W1 w4) := Lib.hid (HX3.out.ex HO3.out (by rw [Hs1.out]; exact Nat.le_refl _) hx4)
    clear ho4 hb4 hx4 HD
    go_wp2_with fail
    refine (sortI_any HO4.out (Nat.le_trans (List.length_filter_le _ _) (by simp))).mono ?_
    rintro e w5 ⟨rfl, ho5, hx5⟩
    have HO5 := Lib.hid ho5
    have HX5 : Hid (Ex W1 w5) := Lib.hid (HX4.out.ex HO4.out (by rw [Hs1.out]; exact Nat.le_refl _) hx5)
    clear ho5 hx5
    go_wp2_with fail
    refine (compactI_any HO5.out).mono ?_
    rintro e w6 ⟨v6, rfl, ho6, hb6, hx6⟩
    have HO6 := Lib.hid ho6
    have HX6 : Hid (Ex W1 w6) := Lib.hid (HX5.out.ex HO5.out (by rw [Hs1.out]; exact Nat.le_refl _) hx6)
    clear ho6 hb6 hx6
    go_wp2_with fail
    rw [← HM.out]
    refine ⟨v6, rfl, ?_, HX1.out.trans HX6.out⟩
    have h9 : nextL c a = Lib.compact ((([x.a] : List Int).filter fun n => !decide ((ni : Int) ≤ n)).mergeSort fun x y => decide (x ≤ y)) := by unfold nextL uniq; rw [Hxd.out, Hni.out, HRaw.out]
    rw [h9, Hb0.out]
    exact HO6.out.low (by omega)
  have k42 : (x.op == 42) = false := by simpa using h42
  have q1 : IntKind.i64.wrap ((a : Int) + 1) = (a : Int) + 1 := by simp [IntKind.wrap_i64]; omega
  by_cases h43 : x.op = 43
  case pos =>
    have HRaw : Hid (nextRaw x a = [x.a, (a : Int) + 1]) := Lib.hid (by unfold nextRaw; rw [HSt.out]; simp [h43])
    rw [h43] at y0
    obtain ⟨W3, hW3⟩ : ∃ W3, W2.alloc (.cells #[.int .i64 (x.a), .int .i64 ((a : Int) + 1)] 3) = W3 := ⟨_, rfl⟩
    have hX3 : Ex W1 W3 := by rw [← hW3]; exact HX12.out.alloc _
    have hO3 : OwnI W3 (b0 + 1) (.slice (some ⟨b0 + 2, 0, none⟩) 2 2) [x.a, (a : Int) + 1] := by rw [← hW3, ← Hs2.out]; exact Blk.ownI (l := [x.a, (a : Int) + 1]) (Blk.new W2 _ _) (by rw [Hs2.out]; omega) (by simp)
    have HX3 := Lib.hid hX3; have HO3 := Lib.hid hO3; have HW3 := Lib.hid hW3
    clear hX3 hO3 hW3
    have HD := HFin [x.a, (a : Int) + 1] (.slice (some ⟨b0 + 2, 0, none⟩) 2 2) W3 (by simp) HRaw.out HO3.out HX3.out
    go_wp2_with fail
    rw [HW3.out]
    try rw [Hs2.out]
    refine HD.out.mono ?_
    rintro e w4 ⟨v4, rfl, ho4, hb4, hx4⟩
    have HO4 := Lib.hid ho4
    have HX4 : Hid (Ex W1 w4) := Lib.hid (HX3.out.ex HO3.out (by rw [Hs1.out]; exact Nat.le_refl _) hx4)
    clear ho4 hb4 hx4 HD
    go_wp2_with fail
    refine (sortI_any HO4.out (Nat.le_trans (List.length_filter_le _ _) (by simp))).mono ?_
    rintro e w5 ⟨rfl, ho5, hx5⟩
    have HO5 := Lib.hid ho5
    have HX5 : Hid (Ex W1 w5) := Lib.hid (HX4.out.ex HO4.out (by rw [Hs1.out]; exact Nat.le_refl _) hx5)
    clear ho5 hx5
    go_wp2_with fail
    refine (compactI_any HO5.out).mono ?_
    rintro e w6 ⟨v6, rfl, ho6, hb6, hx6⟩
    have HO6 := Lib.hid ho6
    have HX6 : Hid (Ex W1 w6) := Lib.hid (HX5.out.ex HO5.out (by rw [Hs1.out]; exact Nat.le_refl _) hx6)
    clear ho6 hb6 hx6
    go_wp2_with fail
    rw [← HM.out]
    refine ⟨v6, rfl, ?_, HX1.out.trans HX6.out⟩
    have h9 : nextL c a = Lib.compact ((([x.a, (a : Int) + 1] : List Int).filter fun n => !decide ((ni : Int) ≤ n)).mergeSort fun x y => decide (x ≤ y)) := by unfold nextL uniq; rw [Hxd.out, Hni.out, HRaw.out]
    rw [h9, Hb0.out]
    exact HO6.out.low (by omega)
  have k43 : (x.op == 43) = false := by simpa using h43
  have HRaw : Hid (nextRaw x a = [(a : Int) + 1]) := Lib.hid (by unfold nextRaw; rw [HSt.out]; simp [h42, h43])
  obtain ⟨W3, hW3⟩ : ∃ W3, W2.alloc (.cells #[.int .i64 ((a : Int) + 1)] 3) = W3 := ⟨_, rfl⟩
  have hX3 : Ex W1 W3 := by rw [← hW3]; exact HX12.out.alloc _
  have hO3 : OwnI W3 (b0 + 1) (.slice (some ⟨b0 + 2, 0, none⟩) 1 1) [(a : Int) + 1] := by rw [← hW3, ← Hs2.out]; exact Blk.ownI (l := [(a : Int) + 1]) (Blk.new W2 _ _) (by rw [Hs2.out]; omega) (by simp)
  have HX3 := Lib.hid hX3; have HO3 := Lib.hid hO3; have HW3 := Lib.hid hW3
  clear hX3 hO3 hW3
  have HD := HFin [(a : Int) + 1] (.slice (some ⟨b0 + 2, 0, none⟩) 1 1) W3 (by simp) HRaw.out HO3.out HX3.out
  go_wp2_with fail
  rw [HW3.out]
  try rw [Hs2.out]
  refine HD.out.mono ?_
  rintro e w4 ⟨v4, rfl, ho4, hb4, hx4⟩
  have HO4 := Lib.hid ho4
  have HX4 : Hid (Ex W1 w4) := Lib.hid (HX3.out.ex HO3.out (by rw [Hs1.out]; exact Nat.le_refl _) hx4)
  clear ho4 hb4 hx4 HD
  go_wp2_with fail
  refine (sortI_any HO4.out (Nat.le_trans (List.length_filter_le _ _) (by simp))).mono ?_
  rintro e w5 ⟨rfl, ho5, hx5⟩
  have HO5 := Lib.hid ho5
  have HX5 : Hid (Ex W1 w5) := Lib.hid (HX4.out.ex HO4.out (by rw [Hs1.out]; exact Nat.le_refl _) hx5)
  clear ho5 hx5
  go_wp2_with fail
  refine (compactI_any HO5.out).mono ?_
  rintro e w6 ⟨v6, rfl, ho6, hb6, hx6⟩
  have HO6 := Lib.hid ho6
  have HX6 : Hid (Ex W1 w6) := Lib.hid (HX5.out.ex HO5.out (by rw [Hs1.out]; exact Nat.le_refl _) hx6)
  clear ho6 hb6 hx6
  go_wp2_with fail
  rw [← HM.out]
  refine ⟨v6, rfl, ?_, HX1.out.trans HX6.out⟩
  have h9 : nextL c a = Lib.compact ((([(a : Int) + 1] : List Int).filter fun n => !decide ((ni : Int) ≤ n)).mergeSort fun x y => decide (x ≤ y)) := by unfold nextL uniq; rw [Hxd.out, Hni.out, HRaw.out]
  rw [h9, Hb0.out]
  exact HO6.out.low (by omega)
/-- What Next answers. -/
def NextR (w : World) (c : Co) (at_ : Int) (e : Ending) (w' : World) : Prop :=
  if (chk c).1 = 0 ∧ 0 ≤ at_ ∧ at_ < c.instrs.length then ∃ v, e = .returned (.tuple #[v, .int .i64 0]) ∧ OwnI w' w.heap.size v (nextL c at_.toNat) ∧ Ex w w'
  else e = .returned (.tuple #[.slice none 0 0, .int .i64 1]) ∧ Ex w w'
set_option maxRecDepth 100000 in
set_option maxHeartbeats 4000000 in
theorem Next_any {w : World} {dv lv tv rv iv : Value} {c : Co} {xs : List DeV} (h : RdCo w dv lv tv rv iv c xs) (hb : Big c) (at_ : Int) :
    Calls Tryz.prog 39 #[codeV dv lv tv rv iv, .int .i64 at_] w (NextR w c at_) := by
  obtain ⟨W1, hW1⟩ : ∃ W1, w.alloc (.cells #[dv, lv, tv, rv, iv] 28) = W1 := ⟨_, rfl⟩
  obtain ⟨b0, hb0⟩ : ∃ b0, w.heap.size = b0 := ⟨_, rfl⟩
  have hX1 : Ex w W1 := by rw [← hW1]; exact (Keeps.refl _ w).alloc _
  have hB0 : Blk W1 b0 #[dv, lv, tv, rv, iv] 28 := by rw [← hW1, ← hb0]; exact Blk.new w _ _
  have hwf := wellFormed_any (h.ext hX1) hb
  have HNx : Hid (∀ (V : World) (a : Nat), Ex W1 V → a < c.instrs.length → Calls Tryz.prog 92 #[codeV dv lv tv rv iv, .int .i64 a] V fun e w' => ∃ v, e = .returned v ∧ OwnI w' V.heap.size v (nextL c a) ∧ Ex V w') := Lib.hid (fun V a hV ha => next_any ((h.ext hX1).ext hV) hb.i ha)
  obtain ⟨da, dc, rfl, -⟩ := id h.ds
  obtain ⟨la, lc, rfl, -⟩ := id h.ls
  obtain ⟨ta, tc, rfl, -⟩ := id h.ts
  obtain ⟨ra, rc, rfl, -⟩ := id h.rs
  obtain ⟨ia, ic, rfl, -⟩ := id h.is
  obtain ⟨ni, hni⟩ : ∃ n, c.instrs.length = n := ⟨_, rfl⟩
  have hs1 : b0 ≤ W1.heap.size := by rw [← hb0]; exact hX1.size
  rw [hni] at hwf hB0 hW1 HNx ⊢
  have HF0 : ∀ V, Ex W1 V → Hid (V.cell? ⟨b0, 0, none⟩ = some (.slice da xs.length dc) ∧ V.cell? ⟨b0, 1, none⟩ = some (.slice la c.labels.length lc) ∧ V.cell? ⟨b0, 2, none⟩ = some (.slice ta c.texts.length tc) ∧ V.cell? ⟨b0, 3, none⟩ = some (.slice ra c.reals.length rc) ∧ V.cell? ⟨b0, 4, none⟩ = some (.slice ia ni ic)) := fun V hV =>
    ⟨((hV.blk hB0 id).cell 0).trans rfl, ((hV.blk hB0 id).cell 1).trans rfl, ((hV.blk hB0 id).cell 2).trans rfl, ((hV.blk hB0 id).cell 3).trans rfl, ((hV.blk hB0 id).cell 4).trans rfl⟩
  unfold codeV at hwf HNx ⊢
  have HX1 := Lib.hid hX1; have HW1 := Lib.hid hW1; have Hb0 := Lib.hid hb0; have HWF := Lib.hid hwf; have Hni := Lib.hid hni; have Hs1 := Lib.hid hs1
  clear h hX1 hB0 hW1 hb0 hwf hb hni hs1
  generalize hM : NextR w c at_ = M
  have HM := Lib.hid hM
  clear hM
  obtain ⟨x0, x1, x2, x3, x4⟩ := (HF0 W1 (Keeps.refl _ _)).out
  go_enter Tryz.func39, Tryz.ntmps39
  go_upto_region 1 with fail
  rw [HW1.out]
  try rw [Hb0.out]
  by_cases hg : (chk c).1 = 0
  case neg =>
    rw [decide_eq_false hg] at HWF
    have HG := Lib.hid hg
    go_wp2_with (go_at_call 46; refine HWF.out.mono ?_; rintro e w3 ⟨rfl, hx⟩; have HX := Lib.hid (HX1.out.trans hx); clear hx)
    rw [← HM.out]
    unfold NextR
    rw [if_neg (fun h => HG.out h.1)]
    exact ⟨rfl, HX.out⟩
  rw [decide_eq_true hg] at HWF
  have HG := Lib.hid hg
  clear hg
  go_wp2_with fail
  refine HWF.out.mono ?_
  rintro e w2 ⟨rfl, hx⟩
  have HX2 := Lib.hid hx
  clear hx x0 x1 x2 x3 x4
  obtain ⟨x0, x1, x2, x3, x4⟩ := (HF0 w2 HX2.out).out
  by_cases h1 : 0 ≤ at_
  case neg =>
    have q : at_ < 0 := by omega
    go_wp2_with fail
    rw [← HM.out]
    unfold NextR
    rw [if_neg (fun h => by have := h.2.1; omega)]
    exact ⟨rfl, HX1.out.trans HX2.out⟩
  have q1 : ¬ at_ < 0 := by omega
  by_cases h2 : at_ < ni
  case neg =>
    have q : (ni : Int) ≤ at_ := by omega
    go_wp2_with fail
    rw [← HM.out]
    unfold NextR
    rw [if_neg (fun h => by have := h.2.2; rw [Hni.out] at this; omega)]
    exact ⟨rfl, HX1.out.trans HX2.out⟩
  have q2 : ¬ (ni : Int) ≤ at_ := by omega
  obtain ⟨a0, rfl⟩ : ∃ a : Nat, at_ = a := ⟨at_.toNat, by omega⟩
  have HA0 : Hid (a0 < ni) := Lib.hid (by omega)
  go_wp2_with fail
  refine (HNx.out w2 a0 HX2.out HA0.out).mono ?_
  rintro e w3 ⟨v3, rfl, ho3, hx3⟩
  have HO3 := Lib.hid ho3; have HX3 := Lib.hid hx3
  clear ho3 hx3
  go_wp2_with fail
  rw [← HM.out]
  unfold NextR
  rw [if_pos ⟨HG.out, by omega, by rw [Hni.out]; have := HA0.out; omega⟩]
  refine ⟨v3, rfl, ?_, HX1.out.trans (HX2.out.trans HX3.out)⟩
  exact HO3.out.low (by have := HX2.out.size; have := HX1.out.size; omega)
end Go.Proofs.YtlaepkmnbbgbcaaGreatDoor
