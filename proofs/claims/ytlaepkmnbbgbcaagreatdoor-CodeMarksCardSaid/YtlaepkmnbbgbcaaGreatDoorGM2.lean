/- code.Same's closure: two descriptors that read alike. slices.EqualFunc with Same's closure. code.Same returns true for two codes that read alike. Small, fine. -/
import Derived.Test.YtlaepkmnbbgbcaaGreatDoorGM1
import Derived.ChangeKeysEq
import Derived.Test.YtlaepkmnbbgbcaaGreatDoorGB9
import Derived.Test.YtlaepkmnbbgbcaaGreatDoorGB18
/- code.Same's closure: two descriptors that read alike. -/
namespace Go.Proofs.YtlaepkmnbbgbcaaGreatDoor
open Go.RowKit Go.Instr Go.Shelf
set_option linter.unusedVariables false
set_option linter.unusedSimpArgs false

theorem run_eql8 (a b c d e f g h : Int) (w : World) : (binOp .eql 134 (.agg #[.int .i64 a, .int .i64 b, .int .i64 c, .int .i64 d, .int .i64 e, .int .i64 f, .int .i64 g, .int .i64 h]) (.agg #[.int .i64 a, .int .i64 b, .int .i64 c, .int .i64 d, .int .i64 e, .int .i64 f, .int .i64 g, .int .i64 h])).run Tryz.prog w = .ok (.bool true) w := by
  obtain ⟨i, hi⟩ : ∃ i, Tryz.prog.info? 3 = some i := Option.isSome_iff_exists.1 (by kernel_rfl)
  have hc : Tryz.prog.cellsOf 3 = 1 := by kernel_rfl
  rw [run_eql_struct, run_equalIn_array w 9999 _ _ (e := 3) (n := 8) (i := i) (by kernel_rfl) hi, hc]
  show ((Op.eqItems 9999 3 1 _ _ [0, 1, 2, 3, 4, 5, 6, 7]).run Tryz.prog w).andThen _ = _
  simp only [Op.eqItems]
  simp [go_sem]
theorem same1_any {w : World} {x y : DeV} (hd : x.d = y.d) (hx : RdDe w x) (hy : RdDe w y) (hl1 : x.d.chain.length ≤ 1000000) (hl2 : x.d.up.length ≤ 1000000) (hl3 : x.d.virts.length ≤ 1000000) :
    Calls Tryz.prog 78 #[.agg (encD x).toArray, .agg (encD y).toArray] w fun e w' => e = .returned (.bool true) ∧ Ex w w' := by
  obtain ⟨d, v1, v2, v3⟩ := x
  obtain ⟨d', u1, u2, u3⟩ := y
  dsimp only at hd
  subst hd
  obtain ⟨hx1, hx2, hx3⟩ := hx
  obtain ⟨hy1, hy2, hy3⟩ := hy
  dsimp only at hx1 hx2 hx3 hy1 hy2 hy3 hl1 hl2 hl3
  have HA1 : ∀ V, Ex w V → Hid (Calls Tryz.prog 79 #[v1, u1] V fun e w' => e = .returned (.bool true) ∧ Ex V w') := fun V hV => Lib.hid (equalI_any (hx1.ext hV) (hy1.ext hV) hl1)
  have HA2 : ∀ V, Ex w V → Hid (Calls Tryz.prog 79 #[v2, u2] V fun e w' => e = .returned (.bool true) ∧ Ex V w') := fun V hV => Lib.hid (equalI_any (hx2.ext hV) (hy2.ext hV) hl2)
  have HA3 : ∀ V, Ex w V → Hid (Calls Tryz.prog 80 #[v3, u3] V fun e w' => e = .returned (.bool true) ∧ Ex V w') := fun V hV => Lib.hid (equalV_any (hx3.ext hV) (hy3.ext hV) hl3)
  obtain ⟨a1, c1, rfl, -⟩ := id hx1
  obtain ⟨a2, c2, rfl, -⟩ := id hx2
  obtain ⟨a3, c3, rfl, -⟩ := id hx3
  obtain ⟨p1, q1, rfl, -⟩ := id hy1
  obtain ⟨p2, q2, rfl, -⟩ := id hy2
  obtain ⟨p3, q3, rfl, -⟩ := id hy3
  clear hx1 hx2 hx3 hy1 hy2 hy3 hl1 hl2 hl3
  obtain ⟨ar, ch, up, of, ce, vs, i1, i2, i3, i4, i5⟩ := d
  dsimp only at HA1 HA2 HA3 ⊢
  generalize ch.length = n1 at *
  generalize up.length = n2 at *
  generalize vs.length = n3 at *
  unfold encD
  dsimp only
  obtain ⟨W1, hW1⟩ : ∃ W1, w.alloc (.cells #[.int .i64 ar, .slice a1 n1 c1, .slice a2 n2 c2, .int .i64 of, .int .i64 ce, .slice a3 n3 c3, .int .i64 i1, .int .i64 i2, .int .i64 i3, .int .i64 i4, .int .i64 i5] 50) = W1 := ⟨_, rfl⟩
  obtain ⟨b0, hb0⟩ : ∃ b0, w.heap.size = b0 := ⟨_, rfl⟩
  have hX1 : Ex w W1 := by rw [← hW1]; exact (Keeps.refl _ w).alloc _
  have hB1 : Blk W1 b0 #[.int .i64 ar, .slice a1 n1 c1, .slice a2 n2 c2, .int .i64 of, .int .i64 ce, .slice a3 n3 c3, .int .i64 i1, .int .i64 i2, .int .i64 i3, .int .i64 i4, .int .i64 i5] 50 := by rw [← hW1, ← hb0]; exact Blk.new w _ _
  have hs1 : W1.heap.size = b0 + 1 := by rw [← hW1, ← hb0, World.size_alloc]
  obtain ⟨W2, hW2⟩ : ∃ W2, W1.alloc (.cells #[.int .i64 ar, .slice p1 n1 q1, .slice p2 n2 q2, .int .i64 of, .int .i64 ce, .slice p3 n3 q3, .int .i64 i1, .int .i64 i2, .int .i64 i3, .int .i64 i4, .int .i64 i5] 50) = W2 := ⟨_, rfl⟩
  have hX12 : Ex W1 W2 := by rw [← hW2]; exact (Keeps.refl _ W1).alloc _
  have hB2 : Blk W2 (b0 + 1) #[.int .i64 ar, .slice p1 n1 q1, .slice p2 n2 q2, .int .i64 of, .int .i64 ce, .slice p3 n3 q3, .int .i64 i1, .int .i64 i2, .int .i64 i3, .int .i64 i4, .int .i64 i5] 50 := by rw [← hW2, ← hs1]; exact Blk.new W1 _ _
  have hB1' := hX12.blk hB1 id
  have HX2 := Lib.hid (hX1.trans hX12)
  have HF1 : ∀ V, Ex W2 V → Hid (∀ (j : Nat), V.cell? ⟨b0, j, none⟩ = #[(.int .i64 ar : Value), .slice a1 n1 c1, .slice a2 n2 c2, .int .i64 of, .int .i64 ce, .slice a3 n3 c3, .int .i64 i1, .int .i64 i2, .int .i64 i3, .int .i64 i4, .int .i64 i5][j]?) := fun V hV => Lib.hid fun j => (hV.blk hB1' id).cell j
  have HF2 : ∀ V, Ex W2 V → Hid (∀ (j : Nat), V.cell? ⟨b0 + 1, j, none⟩ = #[(.int .i64 ar : Value), .slice p1 n1 q1, .slice p2 n2 q2, .int .i64 of, .int .i64 ce, .slice p3 n3 q3, .int .i64 i1, .int .i64 i2, .int .i64 i3, .int .i64 i4, .int .i64 i5][j]?) := fun V hV => Lib.hid fun j => (hV.blk hB2 id).cell j
  have HW1 := Lib.hid hW1; have HW2 := Lib.hid hW2; have Hb0 := Lib.hid hb0; have Hs1 := Lib.hid hs1
  clear hX1 hX12 hB1 hB2 hB1' hW1 hW2 hb0 hs1
  go_enter Tryz.func78, Tryz.ntmps78
  go_upto_region 1 with fail
  rw [HW1.out, Hb0.out]
  try rw [HW2.out]
  try rw [Hs1.out]
  have x1 := ((HF1 W2 (Keeps.refl _ _)).out 1).trans rfl
  have x2 := ((HF1 W2 (Keeps.refl _ _)).out 2).trans rfl
  have x5 := ((HF1 W2 (Keeps.refl _ _)).out 5).trans rfl
  have y1 := ((HF2 W2 (Keeps.refl _ _)).out 1).trans rfl
  have y2 := ((HF2 W2 (Keeps.refl _ _)).out 2).trans rfl
  have y5 := ((HF2 W2 (Keeps.refl _ _)).out 5).trans rfl
  go_wp2_with fail
  refine (HA1 _ HX2.out).out.mono ?_
  rintro e w3 ⟨rfl, hx3⟩
  have HX3 := Lib.hid hx3
  clear hx3 x1 x2 x5 y1 y2 y5
  have x2 := ((HF1 w3 HX3.out).out 2).trans rfl
  have y2 := ((HF2 w3 HX3.out).out 2).trans rfl
  go_wp2_with fail
  refine (HA2 _ (HX2.out.trans HX3.out)).out.mono ?_
  rintro e w4 ⟨rfl, hx4⟩
  have HX4 := Lib.hid (HX3.out.trans hx4)
  clear hx4 x2 y2
  have x5 := ((HF1 w4 HX4.out).out 5).trans rfl
  have y5 := ((HF2 w4 HX4.out).out 5).trans rfl
  go_wp2_with fail
  refine (HA3 _ (HX2.out.trans HX4.out)).out.mono ?_
  rintro e w5 ⟨rfl, hx5⟩
  have HX5 := Lib.hid (HX4.out.trans hx5)
  clear hx5 x5 y5
  have x0 := ((HF1 w5 HX5.out).out 0).trans rfl
  have x3 := ((HF1 w5 HX5.out).out 3).trans rfl
  have x4 := ((HF1 w5 HX5.out).out 4).trans rfl
  have x6 := ((HF1 w5 HX5.out).out 6).trans rfl
  have x7 := ((HF1 w5 HX5.out).out 7).trans rfl
  have x8 := ((HF1 w5 HX5.out).out 8).trans rfl
  have x9 := ((HF1 w5 HX5.out).out 9).trans rfl
  have x10 := ((HF1 w5 HX5.out).out 10).trans rfl
  have y0 := ((HF2 w5 HX5.out).out 0).trans rfl
  have y3 := ((HF2 w5 HX5.out).out 3).trans rfl
  have y4 := ((HF2 w5 HX5.out).out 4).trans rfl
  have y6 := ((HF2 w5 HX5.out).out 6).trans rfl
  have y7 := ((HF2 w5 HX5.out).out 7).trans rfl
  have y8 := ((HF2 w5 HX5.out).out 8).trans rfl
  have y9 := ((HF2 w5 HX5.out).out 9).trans rfl
  have y10 := ((HF2 w5 HX5.out).out 10).trans rfl
  have q8 := run_eql8 ar of ce i1 i2 i3 i4 i5
  go_wp2_with fail
  go_ret
  exact ⟨rfl, HX2.out.trans HX5.out⟩
end Go.Proofs.YtlaepkmnbbgbcaaGreatDoor
/- slices.EqualFunc with Same's closure. -/
namespace Go.Proofs.YtlaepkmnbbgbcaaGreatDoor
open Go.RowKit Go.Instr Go.Shelf
set_option linter.unusedVariables false
set_option linter.unusedSimpArgs false

set_option maxRecDepth 100000 in
set_option maxHeartbeats 4000000 in
theorem equalF_any {w : World} {va vb : Value} {xs ys : List DeV} (ha : RdL encD w va xs) (hb : RdL encD w vb ys) (he : xs.map (·.d) = ys.map (·.d)) (hx : ∀ x ∈ xs, RdDe w x) (hy : ∀ y ∈ ys, RdDe w y)
    (hl : xs.length ≤ 1000000) (hll : ∀ x ∈ xs, x.d.chain.length ≤ 1000000 ∧ x.d.up.length ≤ 1000000 ∧ x.d.virts.length ≤ 1000000) :
    Calls Tryz.prog 81 #[va, vb, .func (.func 78) #[] #[]] w fun e w' => e = .returned (.bool true) ∧ Ex w w' := by
  obtain ⟨aa, ac, rfl, -, ha1, -⟩ := id ha
  obtain ⟨ba, bc, rfl, -, hb1, -⟩ := id hb
  have HX0 : Hid (Ex w w) := Lib.hid (Keeps.refl _ w)
  have hlen : ys.length = xs.length := by have := congrArg List.length he; simpa using this.symm
  rw [hlen] at hb ⊢
  obtain ⟨n, hn⟩ : ∃ n, xs.length = n := ⟨_, rfl⟩
  rw [hn] at hl ha hb hlen ⊢
  have HA := Lib.hid ha; have HB := Lib.hid hb; have HA1 := Lib.hid ha1; have HB1 := Lib.hid hb1; have Hn := Lib.hid hn; have Hlen := Lib.hid hlen; have HE := Lib.hid he; have HDx := Lib.hid hx; have HDy := Lib.hid hy; have HLL := Lib.hid hll
  clear ha hb ha1 hb1 hn hlen he hx hy hll
  go_enter Tryz.func81, Tryz.ntmps81
  go_wp2_with fail
  go_loopw [17] (fun s wr => ∃ k : Nat, k ≤ n ∧ s = .int .i64 k ∧ Hid (Ex w wr)) (fun s wr => n - (intOf s).toNat)
  case atStart => exact ⟨0, Nat.zero_le _, rfl, HX0⟩
  case round =>
    obtain ⟨k, hk, rfl, HX⟩ := hrel
    by_cases hlt : k < n
    case pos =>
      obtain ⟨ad, rfl⟩ : ∃ ad, aa = some ad := by
        cases aa with
        | none => have := HA1.out rfl; have h2 := Hn.out; rw [this] at h2; simp at h2; omega
        | some ad => exact ⟨ad, rfl⟩
      obtain ⟨bd, rfl⟩ : ∃ ad, ba = some ad := by
        cases ba with
        | none => have := HB1.out rfl; have h2 := Hlen.out; rw [this] at h2; simp at h2; omega
        | some ad => exact ⟨ad, rfl⟩
      obtain ⟨x, hx⟩ : ∃ x, xs[k]? = some x := ⟨_, List.getElem?_eq_getElem (by rw [Hn.out]; exact hlt)⟩
      obtain ⟨y, hy⟩ : ∃ y, ys[k]? = some y := ⟨_, List.getElem?_eq_getElem (by rw [Hlen.out]; exact hlt)⟩
      have hxy : x.d = y.d := by
        have := congrArg (·[k]?) HE.out
        simp only [List.getElem?_map, hx, hy, Option.map_some, Option.some.injEq] at this
        exact this
      have hDx := HDx.out x (List.mem_of_getElem? hx)
      have hDy := HDy.out y (List.mem_of_getElem? hy)
      have hLx := HLL.out x (List.mem_of_getElem? hx)
      obtain ⟨A, hA⟩ : ∃ A, ad.add (k * 11) = A := ⟨_, rfl⟩
      obtain ⟨B, hB⟩ : ∃ A, bd.add (k * 11) = A := ⟨_, rfl⟩
      obtain ⟨W4, hW4⟩ : ∃ W4, wr.alloc (.cells (encD x).toArray 50) = W4 := ⟨_, rfl⟩
      obtain ⟨b4, hb4⟩ : ∃ b4, wr.heap.size = b4 := ⟨_, rfl⟩
      have hX4 : Ex wr W4 := by rw [← hW4]; exact (Keeps.refl _ wr).alloc _
      have hB4 : Blk W4 b4 (encD x).toArray 50 := by rw [← hW4, ← hb4]; exact Blk.new wr _ _
      have hs4 : W4.heap.size = b4 + 1 := by rw [← hW4, World.size_alloc, hb4]
      obtain ⟨W5, hW5⟩ : ∃ W5, W4.alloc (.cells (encD y).toArray 50) = W5 := ⟨_, rfl⟩
      have hX5 : Ex W4 W5 := by rw [← hW5]; exact (Keeps.refl _ W4).alloc _
      have hB5 : Blk W5 (b4 + 1) (encD y).toArray 50 := by rw [← hW5, ← hs4]; exact Blk.new W4 _ _
      have hB45 := hX5.blk hB4 id
      have HCall := Lib.hid (same1_any hxy (hDx.ext (HX.out.trans (hX4.trans hX5))) (hDy.ext (HX.out.trans (hX4.trans hX5))) hLx.1 hLx.2.1 hLx.2.2)
      obtain ⟨e0, e1, e2, e3, e4, e5, e6, e7, e8, e9, e10⟩ := (HA.out.ext HX.out).deCells hx hA
      have hBd : RdL encD W4 (.slice (some bd) n bc) ys := HB.out.ext (HX.out.trans hX4)
      obtain ⟨f0, f1, f2, f3, f4, f5, f6, f7, f8, f9, f10⟩ := hBd.deCells hy hB
      have HXn := Lib.hid (HX.out.trans (hX4.trans hX5))
      obtain ⟨dx, cx, ux, vx⟩ := x
      obtain ⟨dy, cy, uy, vy⟩ := y
      dsimp only at hxy
      subst hxy
      obtain ⟨ca, cc, ec, -⟩ := id hDx.chain
      obtain ⟨ua, uc, eu, -⟩ := id hDx.up
      obtain ⟨va, vc, ev, -⟩ := id hDx.virts
      obtain ⟨ca2, cc2, ec2, -⟩ := id hDy.chain
      obtain ⟨ua2, uc2, eu2, -⟩ := id hDy.up
      obtain ⟨va2, vc2, ev2, -⟩ := id hDy.virts
      dsimp only at ec eu ev ec2 eu2 ev2
      subst ec; subst eu; subst ev; subst ec2; subst eu2; subst ev2
      clear hDx hDy hLx hx hy hBd
      obtain ⟨ar, ch, up, of, ce, vs, i1, i2, i3, i4, i5⟩ := dx
      dsimp only [encD] at *
      generalize ch.length = n1 at *
      generalize up.length = n2 at *
      generalize vs.length = n3 at *
      have g4 : ∀ j : Nat, W5.cell? ⟨b4, j, none⟩ = #[(.int .i64 ar : Value), .slice ca n1 cc, .slice ua n2 uc, .int .i64 of, .int .i64 ce, .slice va n3 vc, .int .i64 i1, .int .i64 i2, .int .i64 i3, .int .i64 i4, .int .i64 i5][j]? := hB45.cell
      have g5 : ∀ j : Nat, W5.cell? ⟨b4 + 1, j, none⟩ = #[(.int .i64 ar : Value), .slice ca2 n1 cc2, .slice ua2 n2 uc2, .int .i64 of, .int .i64 ce, .slice va2 n3 vc2, .int .i64 i1, .int .i64 i2, .int .i64 i3, .int .i64 i4, .int .i64 i5][j]? := hB5.cell
      have G4 := Lib.hid g4; have G5 := Lib.hid g5; have HW4 := Lib.hid hW4; have HW5 := Lib.hid hW5; have Hb4 := Lib.hid hb4; have Hs4 := Lib.hid hs4
      clear g4 g5 hB4 hB5 hB45 hW4 hW5 hb4 hs4 hX4 hX5
      go_upto_region 6 with fail
      rw [HW4.out]
      try rw [Hb4.out]
      clear e0 e1 e2 e3 e4 e5 e6 e7 e8 e9 e10
      go_upto_region 7 with fail
      rw [HW5.out]
      try rw [Hs4.out]
      clear f0 f1 f2 f3 f4 f5 f6 f7 f8 f9 f10
      have e0 := (G4.out 0).trans rfl
      have e1 := (G4.out 1).trans rfl
      have e2 := (G4.out 2).trans rfl
      have e3 := (G4.out 3).trans rfl
      have e4 := (G4.out 4).trans rfl
      have e5 := (G4.out 5).trans rfl
      have e6 := (G4.out 6).trans rfl
      have e7 := (G4.out 7).trans rfl
      have e8 := (G4.out 8).trans rfl
      have e9 := (G4.out 9).trans rfl
      have e10 := (G4.out 10).trans rfl
      have f0 := (G5.out 0).trans rfl
      have f1 := (G5.out 1).trans rfl
      have f2 := (G5.out 2).trans rfl
      have f3 := (G5.out 3).trans rfl
      have f4 := (G5.out 4).trans rfl
      have f5 := (G5.out 5).trans rfl
      have f6 := (G5.out 6).trans rfl
      have f7 := (G5.out 7).trans rfl
      have f8 := (G5.out 8).trans rfl
      have f9 := (G5.out 9).trans rfl
      have f10 := (G5.out 10).trans rfl
      go_wp2_with fail
      refine HCall.out.mono ?_
      rintro e w6 ⟨rfl, hx6⟩
      have HX6 := Lib.hid (HXn.out.trans hx6)
      clear hx6 e0 e1 e2 e3 e4 e5 e6 e7 e8 e9 e10 f0 f1 f2 f3 f4 f5 f6 f7 f8 f9 f10
      go_wp2_with fail
      exact ⟨⟨k + 1, by omega, by go_num, HX6⟩, by simp [intOf]; omega⟩
    case neg =>
      have hkn : k = n := by omega
      subst hkn
      go_wp2_with fail
      go_ret
      exact ⟨rfl, HX.out⟩
end Go.Proofs.YtlaepkmnbbgbcaaGreatDoor
/- code.Same returns true for two codes that read alike. -/
namespace Go.Proofs.YtlaepkmnbbgbcaaGreatDoor
open Go.RowKit Go.Instr Go.Shelf
set_option linter.unusedVariables false
set_option linter.unusedSimpArgs false

set_option maxRecDepth 100000 in
set_option maxHeartbeats 4000000 in
theorem Same_any {w : World} {dv lv tv rv iv ev mv uv sv jv : Value} {c : Co} {xs ys : List DeV} (h : RdCo w dv lv tv rv iv c xs) (h' : RdCo w ev mv uv sv jv c ys) (hb : Big c) :
    Calls Tryz.prog 28 #[codeV dv lv tv rv iv, codeV ev mv uv sv jv] w fun e w' => e = .returned (.bool true) ∧ Ex w w' := by
  have he : xs.map (·.d) = ys.map (·.d) := h.eq.trans h'.eq.symm
  have hll : ∀ x ∈ xs, x.d.chain.length ≤ 1000000 ∧ x.d.up.length ≤ 1000000 ∧ x.d.virts.length ≤ 1000000 := fun x hx => hb.e x.d (by rw [← h.eq]; exact List.mem_map_of_mem hx)
  have hxl : xs.length ≤ 1000000 := by have := hb.d; rw [h.len]; exact this
  have HA1 : ∀ V, Ex w V → Hid (Calls Tryz.prog 81 #[dv, ev, .func (.func 78) #[] #[]] V fun e w' => e = .returned (.bool true) ∧ Ex V w') := fun V hV => Lib.hid (equalF_any (h.ds.ext hV) (h'.ds.ext hV) he (fun x hx => (h.de x hx).ext hV) (fun x hx => (h'.de x hx).ext hV) hxl hll)
  have HA2 : ∀ V, Ex w V → Hid (Calls Tryz.prog 82 #[lv, mv] V fun e w' => e = .returned (.bool true) ∧ Ex V w') := fun V hV => Lib.hid (equalL_any (h.ls.ext hV) (h'.ls.ext hV) hb.l)
  have HA3 : ∀ V, Ex w V → Hid (Calls Tryz.prog 83 #[tv, uv] V fun e w' => e = .returned (.bool true) ∧ Ex V w') := fun V hV => Lib.hid (equalS_any (h.ts.ext hV) (h'.ts.ext hV) hb.t)
  have HA4 : ∀ V, Ex w V → Hid (Calls Tryz.prog 84 #[rv, sv] V fun e w' => e = .returned (.bool true) ∧ Ex V w') := fun V hV => Lib.hid (equalR_any (h.rs.ext hV) (h'.rs.ext hV) hb.r)
  have HA5 : ∀ V, Ex w V → Hid (Calls Tryz.prog 85 #[iv, jv] V fun e w' => e = .returned (.bool true) ∧ Ex V w') := fun V hV => Lib.hid (equalN_any (h.is.ext hV) (h'.is.ext hV) hb.i)
  obtain ⟨a1, c1, rfl, -⟩ := id h.ds
  obtain ⟨a2, c2, rfl, -⟩ := id h.ls
  obtain ⟨a3, c3, rfl, -⟩ := id h.ts
  obtain ⟨a4, c4, rfl, -⟩ := id h.rs
  obtain ⟨a5, c5, rfl, -⟩ := id h.is
  obtain ⟨p1, q1, rfl, -⟩ := id h'.ds
  obtain ⟨p2, q2, rfl, -⟩ := id h'.ls
  obtain ⟨p3, q3, rfl, -⟩ := id h'.ts
  obtain ⟨p4, q4, rfl, -⟩ := id h'.rs
  obtain ⟨p5, q5, rfl, -⟩ := id h'.is
  have hl2 : ys.length = xs.length := by rw [h.len, h'.len]
  rw [hl2] at HA1 ⊢
  clear h h' hb he hll hxl hl2
  generalize xs.length = n1 at *
  generalize c.labels.length = n2 at *
  generalize c.texts.length = n3 at *
  generalize c.reals.length = n4 at *
  generalize c.instrs.length = n5 at *
  unfold codeV
  obtain ⟨W1, hW1⟩ : ∃ W1, w.alloc (.cells #[.slice a1 n1 c1, .slice a2 n2 c2, .slice a3 n3 c3, .slice a4 n4 c4, .slice a5 n5 c5] 28) = W1 := ⟨_, rfl⟩
  obtain ⟨b0, hb0⟩ : ∃ b0, w.heap.size = b0 := ⟨_, rfl⟩
  have hX1 : Ex w W1 := by rw [← hW1]; exact (Keeps.refl _ w).alloc _
  have hB1 : Blk W1 b0 #[.slice a1 n1 c1, .slice a2 n2 c2, .slice a3 n3 c3, .slice a4 n4 c4, .slice a5 n5 c5] 28 := by rw [← hW1, ← hb0]; exact Blk.new w _ _
  have hs1 : W1.heap.size = b0 + 1 := by rw [← hW1, ← hb0, World.size_alloc]
  obtain ⟨W2, hW2⟩ : ∃ W2, W1.alloc (.cells #[.slice p1 n1 q1, .slice p2 n2 q2, .slice p3 n3 q3, .slice p4 n4 q4, .slice p5 n5 q5] 28) = W2 := ⟨_, rfl⟩
  have hX12 : Ex W1 W2 := by rw [← hW2]; exact (Keeps.refl _ W1).alloc _
  have hB2 : Blk W2 (b0 + 1) #[.slice p1 n1 q1, .slice p2 n2 q2, .slice p3 n3 q3, .slice p4 n4 q4, .slice p5 n5 q5] 28 := by rw [← hW2, ← hs1]; exact Blk.new W1 _ _
  have hB1' := hX12.blk hB1 id
  have HX2 := Lib.hid (hX1.trans hX12)
  have HF1 : ∀ V, Ex W2 V → Hid (∀ (j : Nat), V.cell? ⟨b0, j, none⟩ = #[(.slice a1 n1 c1 : Value), .slice a2 n2 c2, .slice a3 n3 c3, .slice a4 n4 c4, .slice a5 n5 c5][j]?) := fun V hV => Lib.hid fun j => (hV.blk hB1' id).cell j
  have HF2 : ∀ V, Ex W2 V → Hid (∀ (j : Nat), V.cell? ⟨b0 + 1, j, none⟩ = #[(.slice p1 n1 q1 : Value), .slice p2 n2 q2, .slice p3 n3 q3, .slice p4 n4 q4, .slice p5 n5 q5][j]?) := fun V hV => Lib.hid fun j => (hV.blk hB2 id).cell j
  have HW1 := Lib.hid hW1; have HW2 := Lib.hid hW2; have Hb0 := Lib.hid hb0; have Hs1 := Lib.hid hs1
  clear hX1 hX12 hB1 hB2 hB1' hW1 hW2 hb0 hs1
  go_enter Tryz.func28, Tryz.ntmps28
  go_upto_region 2 with fail
  rw [HW1.out, Hb0.out]
  try rw [HW2.out]
  try rw [Hs1.out]
  have x := ((HF1 W2 (Keeps.refl _ _)).out 0).trans rfl
  have y := ((HF2 W2 (Keeps.refl _ _)).out 0).trans rfl
  go_wp2_with fail
  refine (HA1 _ HX2.out).out.mono ?_
  rintro e w3 ⟨rfl, hx3⟩
  have HX3 := Lib.hid hx3
  clear hx3 x y
  have x := ((HF1 w3 HX3.out).out 1).trans rfl
  have y := ((HF2 w3 HX3.out).out 1).trans rfl
  go_wp2_with fail
  refine (HA2 _ (HX2.out.trans HX3.out)).out.mono ?_
  rintro e w4 ⟨rfl, hx4⟩
  have HX4 := Lib.hid (HX3.out.trans hx4)
  clear hx4 x y
  have x := ((HF1 w4 HX4.out).out 2).trans rfl
  have y := ((HF2 w4 HX4.out).out 2).trans rfl
  go_wp2_with fail
  refine (HA3 _ (HX2.out.trans HX4.out)).out.mono ?_
  rintro e w5 ⟨rfl, hx5⟩
  have HX5 := Lib.hid (HX4.out.trans hx5)
  clear hx5 x y
  have x := ((HF1 w5 HX5.out).out 3).trans rfl
  have y := ((HF2 w5 HX5.out).out 3).trans rfl
  go_wp2_with fail
  refine (HA4 _ (HX2.out.trans HX5.out)).out.mono ?_
  rintro e w6 ⟨rfl, hx6⟩
  have HX6 := Lib.hid (HX5.out.trans hx6)
  clear hx6 x y
  have x := ((HF1 w6 HX6.out).out 4).trans rfl
  have y := ((HF2 w6 HX6.out).out 4).trans rfl
  go_wp2_with fail
  refine (HA5 _ (HX2.out.trans HX6.out)).out.mono ?_
  rintro e w7 ⟨rfl, hx7⟩
  have HX7 := Lib.hid (HX2.out.trans (HX6.out.trans hx7))
  clear hx7 x y
  go_wp2_with fail
  go_ret
  exact ⟨rfl, HX7.out⟩
end Go.Proofs.YtlaepkmnbbgbcaaGreatDoor
/- Small, fine. -/
namespace Go.Proofs.YtlaepkmnbbgbcaaGreatDoor
open Go.RowKit Go.Instr Go.Shelf
set_option linter.unusedVariables false
set_option linter.unusedSimpArgs false
attribute [local go_sem] Oper.semAt_some

def smallD (d : De) : Bool := decide (d.chain.length ≤ 60) && decide (d.up.length ≤ 60) && decide (d.virts.length ≤ 40)
def smallB (c : Co) : Bool :=
  decide (c.instrs.length ≤ 300) && decide (c.descs.length ≤ 40) && decide (c.labels.length ≤ 40) && decide (c.texts.length ≤ 40) && decide (c.reals.length ≤ 40) && c.descs.all smallD && c.texts.all fun s => decide (s.size ≤ 2100)
theorem small_big {c : Co} (h : smallB c = true) : Big c := by
  unfold smallB smallD at h
  simp only [Bool.and_eq_true, decide_eq_true_eq, List.all_eq_true] at h
  obtain ⟨⟨⟨⟨⟨⟨h1, h2⟩, h3⟩, h4⟩, h5⟩, h6⟩, h7⟩ := h
  exact ⟨by omega, by omega, by omega, by omega, by omega, fun s hs => by have := h7 s hs; omega, fun d hd => by have := h6 d hd; omega⟩
set_option maxRecDepth 100000 in
set_option maxHeartbeats 8000000 in
theorem Small_any {w : World} {dv lv tv rv iv : Value} {c : Co} {xs : List DeV} (h : RdCo w dv lv tv rv iv c xs) :
    Calls Tryz.prog 12 #[codeV dv lv tv rv iv] w fun e w' => e = .returned (.bool (smallB c)) ∧ Ex w w' := by
  obtain ⟨W1, hW1⟩ : ∃ W1, w.alloc (.cells #[dv, lv, tv, rv, iv] 28) = W1 := ⟨_, rfl⟩
  obtain ⟨b0, hb0⟩ : ∃ b0, w.heap.size = b0 := ⟨_, rfl⟩
  have hX1 : Ex w W1 := by rw [← hW1]; exact (Keeps.refl _ w).alloc _
  have hB0 : Blk W1 b0 #[dv, lv, tv, rv, iv] 28 := by rw [← hW1, ← hb0]; exact Blk.new w _ _
  obtain ⟨da, dc, rfl, -, hd1, -⟩ := id h.ds
  obtain ⟨la, lc, rfl, -⟩ := id h.ls
  obtain ⟨ta, tc, rfl, -, ht1, -⟩ := id h.ts
  obtain ⟨ra, rc, rfl, -⟩ := id h.rs
  obtain ⟨ia, ic, rfl, -⟩ := id h.is
  have hxl := h.len
  rw [hxl] at hB0 hW1
  have hR := h.ext hX1
  obtain ⟨nd, hnd⟩ : ∃ n, c.descs.length = n := ⟨_, rfl⟩
  obtain ⟨nl, hnl⟩ : ∃ n, c.labels.length = n := ⟨_, rfl⟩
  obtain ⟨nt, hnt⟩ : ∃ n, c.texts.length = n := ⟨_, rfl⟩
  obtain ⟨nr, hnr⟩ : ∃ n, c.reals.length = n := ⟨_, rfl⟩
  obtain ⟨ni, hni⟩ : ∃ n, c.instrs.length = n := ⟨_, rfl⟩
  rw [hnd, hnl, hnt, hnr, hni] at hB0 hW1
  have x0 : W1.cell? ⟨b0, 0, none⟩ = some (.slice da nd dc) := (hB0.cell 0).trans rfl
  have x1 : W1.cell? ⟨b0, 1, none⟩ = some (.slice la nl lc) := (hB0.cell 1).trans rfl
  have x2 : W1.cell? ⟨b0, 2, none⟩ = some (.slice ta nt tc) := (hB0.cell 2).trans rfl
  have x3 : W1.cell? ⟨b0, 3, none⟩ = some (.slice ra nr rc) := (hB0.cell 3).trans rfl
  have x4 : W1.cell? ⟨b0, 4, none⟩ = some (.slice ia ni ic) := (hB0.cell 4).trans rfl
  obtain ⟨B, hB⟩ : ∃ B, smallB c = B := ⟨_, rfl⟩
  rw [hB]
  have hBe : B = (decide (ni ≤ 300) && decide (nd ≤ 40) && decide (nl ≤ 40) && decide (nt ≤ 40) && decide (nr ≤ 40) && c.descs.all smallD && c.texts.all fun s => decide (s.size ≤ 2100)) := by
    rw [← hB, ← hnd, ← hnl, ← hnt, ← hnr, ← hni]; rfl
  have HX1 := Lib.hid hX1; have HR := Lib.hid hR; have HBe := Lib.hid hBe; have Hd1 := Lib.hid hd1; have Ht1 := Lib.hid ht1; have HW1 := Lib.hid hW1; have Hb0 := Lib.hid hb0; have Hnd := Lib.hid hnd; have Hnt := Lib.hid hnt; have Hxl := Lib.hid hxl
  rw [hxl, hnd, hnl, hnt, hnr, hni]
  clear hX1 hR hBe hd1 ht1 hB0 hW1 hb0 hnd hnl hnt hnr hni hxl hB h
  unfold codeV
  go_enter Tryz.func12, Tryz.ntmps12
  go_upto_region 1 with fail
  rw [HW1.out]
  try rw [Hb0.out]
  by_cases a0 : ni ≤ 300
  case neg =>
    have q : (300 : Int) < ni := by omega
    have hb : B = false := by rw [HBe.out]; simp; omega
    subst hb
    go_wp2_with fail
    go_ret
    exact ⟨rfl, HX1.out⟩
  have q0 : ¬ ((300 : Int) < ni) := by omega
  by_cases a1 : nd ≤ 40
  case neg =>
    have q : (40 : Int) < nd := by omega
    have hb : B = false := by rw [HBe.out]; simp; omega
    subst hb
    go_wp2_with fail
    go_ret
    exact ⟨rfl, HX1.out⟩
  have q1 : ¬ ((40 : Int) < nd) := by omega
  by_cases a2 : nl ≤ 40
  case neg =>
    have q : (40 : Int) < nl := by omega
    have hb : B = false := by rw [HBe.out]; simp; omega
    subst hb
    go_wp2_with fail
    go_ret
    exact ⟨rfl, HX1.out⟩
  have q2 : ¬ ((40 : Int) < nl) := by omega
  by_cases a3 : nt ≤ 40
  case neg =>
    have q : (40 : Int) < nt := by omega
    have hb : B = false := by rw [HBe.out]; simp; omega
    subst hb
    go_wp2_with fail
    go_ret
    exact ⟨rfl, HX1.out⟩
  have q3 : ¬ ((40 : Int) < nt) := by omega
  by_cases a4 : nr ≤ 40
  case neg =>
    have q : (40 : Int) < nr := by omega
    have hb : B = false := by rw [HBe.out]; simp; omega
    subst hb
    go_wp2_with fail
    go_ret
    exact ⟨rfl, HX1.out⟩
  have q4 : ¬ ((40 : Int) < nr) := by omega
  have HBe2 : Hid (B = (c.descs.all smallD && c.texts.all fun s => decide (s.size ≤ 2100))) := Lib.hid (by rw [HBe.out]; simp [a0, a1, a2, a3, a4])
  clear HBe
  go_wp2_with fail
  clear q0 q1 q2 q3 q4 a0 a2 a4
  go_loopw [3] (fun s wr => ∃ k : Nat, k ≤ nd ∧ s = .int .i64 k ∧ W1 = wr ∧ Hid (∀ j d, j < k → c.descs[j]? = some d → smallD d = true)) (fun s wr => nd - (intOf s).toNat)
  case atStart => exact ⟨0, Nat.zero_le _, rfl, rfl, Lib.hid (fun j d hj => by omega)⟩
  case round =>
    obtain ⟨k, hk, rfl, rfl, HQ⟩ := hrel
    by_cases hlt : k < nd
    case pos =>
      obtain ⟨ad, rfl⟩ : ∃ ad, da = some ad := by
        cases da with
        | none => have := Hd1.out rfl; have h2 := Hxl.out; rw [Hnd.out, this] at h2; simp at h2; omega
        | some ad => exact ⟨ad, rfl⟩
      obtain ⟨x, hx⟩ : ∃ x, xs[k]? = some x := ⟨_, List.getElem?_eq_getElem (by rw [Hxl.out, Hnd.out]; exact hlt)⟩
      have hxd : c.descs[k]? = some x.d := by rw [← HR.out.eq, List.getElem?_map, hx]; rfl
      have hD := HR.out.de x (List.mem_of_getElem? hx)
      obtain ⟨A, hA⟩ : ∃ A, ad.add (k * 11) = A := ⟨_, rfl⟩
      obtain ⟨e0, e1, e2, e3, e4, e5, e6, e7, e8, e9, e10⟩ := HR.out.ds.deCells hx hA
      obtain ⟨d, cv, uv, vv⟩ := x
      obtain ⟨ca, cc, ec, -⟩ := id hD.chain
      obtain ⟨ua, uc, eu, -⟩ := id hD.up
      obtain ⟨va, vc, ev, -⟩ := id hD.virts
      simp only at ec eu ev hxd e1 e2 e5
      subst ec; subst eu; subst ev
      obtain ⟨m1, hm1⟩ : ∃ m, d.chain.length = m := ⟨_, rfl⟩
      obtain ⟨m2, hm2⟩ : ∃ m, d.up.length = m := ⟨_, rfl⟩
      obtain ⟨m3, hm3⟩ : ∃ m, d.virts.length = m := ⟨_, rfl⟩
      rw [hm1] at e1; rw [hm2] at e2; rw [hm3] at e5
      have hsd : smallD d = (decide (m1 ≤ 60) && decide (m2 ≤ 60) && decide (m3 ≤ 40)) := by unfold smallD; rw [hm1, hm2, hm3]
      have HS := Lib.hid hsd; have Hxd := Lib.hid hxd
      have hbf : smallD d = false → B = false := fun h => by
        rw [HBe2.out, Bool.and_eq_false_iff]; left
        rw [List.all_eq_false]; exact ⟨d, List.mem_of_getElem? hxd, by rw [h]; simp⟩
      have HBf := Lib.hid hbf
      clear e0 e3 e4 e6 e7 e8 e9 e10 hD hx hxd hsd hm1 hm2 hm3 hbf
      by_cases c0 : m1 ≤ 60
      case neg =>
        have q : (60 : Int) < m1 := by omega
        have hb := HBf.out (by rw [HS.out]; simp; omega)
        subst hb
        go_wp2_with fail
        go_ret
        exact ⟨rfl, HX1.out⟩
      have q0 : ¬ ((60 : Int) < m1) := by omega
      by_cases c1 : m2 ≤ 60
      case neg =>
        have q : (60 : Int) < m2 := by omega
        have hb := HBf.out (by rw [HS.out]; simp; omega)
        subst hb
        go_wp2_with fail
        go_ret
        exact ⟨rfl, HX1.out⟩
      have q1 : ¬ ((60 : Int) < m2) := by omega
      by_cases c2 : m3 ≤ 40
      case neg =>
        have q : (40 : Int) < m3 := by omega
        have hb := HBf.out (by rw [HS.out]; simp; omega)
        subst hb
        go_wp2_with fail
        go_ret
        exact ⟨rfl, HX1.out⟩
      have q2 : ¬ ((40 : Int) < m3) := by omega
      have HQ2 : Hid (∀ j d, j < k + 1 → c.descs[j]? = some d → smallD d = true) := Lib.hid (fun j z hj hz => by
        by_cases e : j = k
        · subst e; rw [Hxd.out] at hz; injection hz with hz; rw [← hz, HS.out]; simp [c0, c1, c2]
        · exact HQ.out j z (by omega) hz)
      go_wp2_with fail
      exact ⟨⟨k + 1, by omega, by go_num, by first | rfl | trivial, HQ2⟩, by show nd - ((k : Int) + 1).toNat < nd - ((k : Nat) : Int).toNat; omega⟩
    case neg =>
      have hkn : k = nd := by omega
      subst hkn
      have HBe3 : Hid (B = c.texts.all fun s => decide (s.size ≤ 2100)) := Lib.hid (by
        have : c.descs.all smallD = true := List.all_eq_true.2 fun d hd => by
          obtain ⟨j, hj⟩ := List.getElem?_of_mem hd
          exact HQ.out j d (by rw [← Hnd.out]; exact (List.getElem?_eq_some_iff.1 hj).1) hj
        rw [HBe2.out, this]; rfl)
      clear HBe2 HQ
      go_wp2_with fail
      go_loopw [4] (fun s wr => ∃ k : Nat, k ≤ nt ∧ s = .int .i64 k ∧ W1 = wr ∧ Hid (∀ j d, j < k → c.texts[j]? = some d → d.size ≤ 2100)) (fun s wr => nt - (intOf s).toNat)
      case atStart => exact ⟨0, Nat.zero_le _, rfl, rfl, Lib.hid (fun j d hj => by omega)⟩
      case round =>
        obtain ⟨k2, hk2, rfl, rfl, HQ⟩ := hrel
        by_cases hlt2 : k2 < nt
        case pos =>
          obtain ⟨ad, rfl⟩ : ∃ ad, ta = some ad := by
            cases ta with
            | none => have := Ht1.out rfl; have h2 := Hnt.out; rw [this] at h2; simp at h2; omega
            | some ad => exact ⟨ad, rfl⟩
          obtain ⟨x, hx⟩ : ∃ x, c.texts[k2]? = some x := ⟨_, List.getElem?_eq_getElem (by rw [Hnt.out]; exact hlt2)⟩
          have z0 := HR.out.ts.at encS_len hx 0 (by omega)
          rw [Addr.add_zero', Nat.mul_one] at z0
          have z : W1.cell? (ad.add k2) = some (.string x) := z0
          have Hx := Lib.hid hx
          clear z0 hx
          by_cases a0 : x.size ≤ 2100
          case neg =>
            have q : (2100 : Int) < x.size := by omega
            have hb : B = false := by
              rw [HBe3.out, List.all_eq_false]; exact ⟨x, List.mem_of_getElem? Hx.out, by simpa using a0⟩
            subst hb
            go_wp2_with fail
            go_ret
            exact ⟨rfl, HX1.out⟩
          have q0 : ¬ ((2100 : Int) < x.size) := by omega
          have HQ2 : Hid (∀ j d, j < k2 + 1 → c.texts[j]? = some d → d.size ≤ 2100) := Lib.hid (fun j z hj hz => by
            by_cases e : j = k2
            · subst e; rw [Hx.out] at hz; injection hz with hz; rw [← hz]; exact a0
            · exact HQ.out j z (by omega) hz)
          go_wp2_with fail
          exact ⟨⟨k2 + 1, by omega, by go_num, by first | rfl | trivial, HQ2⟩, by show nt - ((k2 : Int) + 1).toNat < nt - ((k2 : Nat) : Int).toNat; omega⟩
        case neg =>
          have hkn2 : k2 = nt := by omega
          subst hkn2
          have hb : B = true := by
            rw [HBe3.out]
            exact List.all_eq_true.2 fun d hd => by
              obtain ⟨j, hj⟩ := List.getElem?_of_mem hd
              exact decide_eq_true (HQ.out j d (by rw [← Hnt.out]; exact (List.getElem?_eq_some_iff.1 hj).1) hj)
          subst hb
          clear HQ
          go_wp2_with fail
          go_ret
          exact ⟨rfl, HX1.out⟩
/-- fine. -/
def fineB (c : Co) : Bool := smallB c && decide ((chk c).1 = 0)
set_option maxRecDepth 100000 in
theorem fine_any {w : World} {dv lv tv rv iv : Value} {c : Co} {xs : List DeV} (h : RdCo w dv lv tv rv iv c xs) :
    Calls Tryz.prog 22 #[codeV dv lv tv rv iv] w fun e w' => e = .returned (.bool (fineB c)) ∧ Ex w w' := by
  obtain ⟨W1, hW1⟩ : ∃ W1, w.alloc (.cells #[dv, lv, tv, rv, iv] 28) = W1 := ⟨_, rfl⟩
  obtain ⟨b0, hb0⟩ : ∃ b0, w.heap.size = b0 := ⟨_, rfl⟩
  have hX1 : Ex w W1 := by rw [← hW1]; exact (Keeps.refl _ w).alloc _
  have hB0 : Blk W1 b0 #[dv, lv, tv, rv, iv] 28 := by rw [← hW1, ← hb0]; exact Blk.new w _ _
  have hs := Small_any (h.ext hX1)
  have HC : Hid (smallB c = true → ∀ V, Ex W1 V → Calls Tryz.prog 26 #[codeV dv lv tv rv iv] V (ChkR V c)) := Lib.hid (fun hb V hV => Check_any ((h.ext hX1).ext hV) (small_big hb))
  obtain ⟨da, dc, rfl, -⟩ := id h.ds
  obtain ⟨la, lc, rfl, -⟩ := id h.ls
  obtain ⟨ta, tc, rfl, -⟩ := id h.ts
  obtain ⟨ra, rc, rfl, -⟩ := id h.rs
  obtain ⟨ia, ic, rfl, -⟩ := id h.is
  have HF0 : ∀ V, Ex W1 V → Hid (V.cell? ⟨b0, 0, none⟩ = some (.slice da xs.length dc) ∧ V.cell? ⟨b0, 1, none⟩ = some (.slice la c.labels.length lc) ∧ V.cell? ⟨b0, 2, none⟩ = some (.slice ta c.texts.length tc) ∧ V.cell? ⟨b0, 3, none⟩ = some (.slice ra c.reals.length rc) ∧ V.cell? ⟨b0, 4, none⟩ = some (.slice ia c.instrs.length ic)) := fun V hV =>
    ⟨((hV.blk hB0 id).cell 0).trans rfl, ((hV.blk hB0 id).cell 1).trans rfl, ((hV.blk hB0 id).cell 2).trans rfl, ((hV.blk hB0 id).cell 3).trans rfl, ((hV.blk hB0 id).cell 4).trans rfl⟩
  obtain ⟨x0, x1, x2, x3, x4⟩ := (HF0 W1 (Keeps.refl _ _)).out
  unfold codeV at hs HC ⊢
  have HS := Lib.hid hs; have HX1 := Lib.hid hX1; have HW1 := Lib.hid hW1; have Hb0 := Lib.hid hb0
  clear hs hX1 hB0 hW1 hb0 h
  generalize hM : (fun (e : Ending) (w' : World) => e = .returned (.bool (fineB c)) ∧ Ex w w') = M
  have HM := Lib.hid hM
  clear hM
  go_enter Tryz.func22, Tryz.ntmps22
  go_upto_region 1 with fail
  rw [HW1.out]
  try rw [Hb0.out]
  cases hb : smallB c with
  | false =>
    have HB := Lib.hid hb
    clear hb
    go_wp2_with (go_at_call 12; refine HS.out.mono ?_; rintro e w2 ⟨rfl, hx⟩; have HX2 := Lib.hid (HX1.out.trans hx); clear hx; rw [HB.out])
    rw [← HM.out]
    exact ⟨by unfold fineB; rw [HB.out]; rfl, HX2.out⟩
  | true =>
    have HB := Lib.hid hb
    clear hb
    go_upto_region 3 with (go_at_call 12; refine HS.out.mono ?_; rintro e w2 ⟨rfl, hx⟩; have HX2 := Lib.hid hx; clear hx; rw [HB.out])
    clear x0 x1 x2 x3 x4
    obtain ⟨x0, x1, x2, x3, x4⟩ := (HF0 w2 HX2.out).out
    go_wp2_with fail
    refine (HC.out HB.out w2 HX2.out).mono ?_
    rintro e w3 ⟨rfl, hx3⟩
    have HX3 := Lib.hid (HX1.out.trans (HX2.out.trans hx3))
    clear hx3
    by_cases hz : (chk c).1 = 0
    · have HZ := Lib.hid hz
      go_wp2_with fail
      rw [← HM.out]
      exact ⟨by unfold fineB; rw [HB.out, HZ.out]; rfl, HX3.out⟩
    · have HZ := Lib.hid hz
      go_wp2_with fail
      rw [← HM.out]
      exact ⟨by unfold fineB; rw [HB.out, decide_eq_false HZ.out]; simp [HZ.out], HX3.out⟩
end Go.Proofs.YtlaepkmnbbgbcaaGreatDoor
