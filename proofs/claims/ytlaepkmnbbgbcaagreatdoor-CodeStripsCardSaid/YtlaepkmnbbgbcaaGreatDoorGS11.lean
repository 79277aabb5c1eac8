/- The reference's Same, for codes that read alike. The reference's Same: codes that read alike. (Written by wip/tools/genYN.py.) The reference's Valid of codes. -/
import Derived.Test.YtlaepkmnbbgbcaaGreatDoorGS8
import Derived.BigRegion
/- The reference's Same, for codes that read alike. -/
namespace Go.Proofs.YtlaepkmnbbgbcaaGreatDoor
open Go.RowKit Go.Instr Go.Shelf
set_option linter.unusedVariables false
set_option linter.unusedSimpArgs false
attribute [local go_sem] Oper.semAt_some

theorem ints_same {w : World} {v1 v2 : Value} {l : List Int} (h1 : RdL encI w v1 l) (h2 : RdL encI w v2 l) (hl : l.length ≤ 1000000) :
    Calls Tryz.prog 23 #[v1, v2] w fun e w' => e = .returned (.bool true) ∧ Ex w w' := by
  refine (IntsQ_any h1 h2 (by omega) (by omega)).mono ?_
  rintro e w' ⟨rfl, q, rfl⟩
  exact ⟨by rw [decide_eq_true rfl], (Keeps.refl _ w).drewN q⟩
set_option maxRecDepth 100000 in
set_option maxHeartbeats 4000000 in
theorem sameDesc_any {w : World} {x y : DeV} (hd : x.d = y.d) (hx : RdDe w x) (hy : RdDe w y) (hl1 : x.d.chain.length ≤ 1000000) (hl2 : x.d.up.length ≤ 1000000) (hl3 : x.d.virts.length ≤ 1000000) :
    Calls Tryz.prog 52 #[.agg (encD x).toArray, .agg (encD y).toArray] w fun e w' => e = .returned (.bool true) ∧ Ex w w' := by
  obtain ⟨d, v1, v2, v3⟩ := x
  obtain ⟨d', u1, u2, u3⟩ := y
  dsimp only at hd
  subst hd
  obtain ⟨hx1, hx2, hx3⟩ := hx
  obtain ⟨hy1, hy2, hy3⟩ := hy
  dsimp only at hx1 hx2 hx3 hy1 hy2 hy3 hl1 hl2 hl3
  have HA1 : ∀ V, Ex w V → Hid (Calls Tryz.prog 23 #[v1, u1] V fun e w' => e = .returned (.bool true) ∧ Ex V w') := fun V hV => Lib.hid (ints_same (hx1.ext hV) (hy1.ext hV) hl1)
  have HA2 : ∀ V, Ex w V → Hid (Calls Tryz.prog 23 #[v2, u2] V fun e w' => e = .returned (.bool true) ∧ Ex V w') := fun V hV => Lib.hid (ints_same (hx2.ext hV) (hy2.ext hV) hl2)
  obtain ⟨a3, c3, rfl, -, ha3, -⟩ := id hx3
  obtain ⟨p3, q3, rfl, -, hp3, -⟩ := id hy3
  have HV1 := Lib.hid hx3; have HV2 := Lib.hid hy3; have Ha3 := Lib.hid ha3; have Hp3 := Lib.hid hp3
  obtain ⟨a1, c1, rfl, -⟩ := id hx1
  obtain ⟨a2, c2, rfl, -⟩ := id hx2
  obtain ⟨p1, q1, rfl, -⟩ := id hy1
  obtain ⟨p2, q2, rfl, -⟩ := id hy2
  clear hx1 hx2 hx3 hy1 hy2 hy3 hl1 hl2 ha3 hp3
  obtain ⟨ar, ch, up, of, ce, vs, i1, i2, i3, i4, i5⟩ := d
  dsimp only at HA1 HA2 HV1 HV2 Ha3 Hp3 hl3 ⊢
  generalize ch.length = n1 at *
  generalize up.length = n2 at *
  obtain ⟨n3, hn3⟩ : ∃ n, vs.length = n := ⟨_, rfl⟩
  rw [hn3] at hl3 HV1 HV2 ⊢
  have Hn3 := Lib.hid hn3
  clear hn3
  unfold encD
  dsimp only
  obtain ⟨W1, hW1⟩ : ∃ W1, w.alloc (.cells #[.int .i64 ar, .slice a1 n1 c1, .slice a2 n2 c2, .int .i64 of, .int .i64 ce, .slice a3 n3 c3, .int .i64 i1, .int .i64 i2, .int .i64 i3, .int .i64 i4, .int .i64 i5] 50) = W1 := ⟨_, rfl⟩
  obtain ⟨b0, hb0⟩ : ∃ b0, w.heap.size = b0 := ⟨_, rfl⟩
  have hX1 : Ex w W1 := by rw [← hW1]; exact (Keeps.refl _ w).alloc _
  have hB1 : Blk W1 b0 #[.int .i64 ar, .slice a1 n1 c1, .slice a2 n2 c2, .int .i64 of, .int .i64 ce, .slice a3 n3 c3, .int .i64 i1, .int .i64 i2, .int .i64 i3, .int .i64 i4, .int .i64 i5] 50 := by rw [← hW1, ← hb0]; exact Blk.new w _ _
  have hs1 : W1.heap.size = b0 + 1 := by rw [← hW1, ← hb0, World.size_alloc]
  obtain ⟨W2, hW2⟩ : ∃ W2, W1.alloc (.cells #[.int .i64 ar, .slice p1 n1 q1, .slice p2 n2 q2, .int .i64 of, .int .i64 ce, .slice p3 n3 q3, .int .i64 i1, .int .i64 i2, .int .i64 i3, .int .i64 i4, .int .i64 i5] 50) = W2 := ⟨_, rfl⟩
  have hX12 : Ex W1 W2 := by rw [← hW2]; exact (Keeps.refl _ W1).alloc _
  have hB2 : Blk W2 (b0 + 1) #[.int .i64 ar, .slice p1 n1 q1, .slice p2 n2 q2, .int .i64 of, .int .i64 ce, .slice p3 n3 q3, .int .i64 i1, .int .i64 i2, .int .i64 i3, .int .i64 i4, .int .i64 i5] 50 := by rw [← hW2, ← hs1]; exact Blk.new W1 _ _
  have hB1' := hX12.blk hB1 id
  have HX2 := Lib.hid (hX1.trans hX12)
  have HF1 : ∀ V, Ex W2 V → Hid (∀ (j : Nat), V.cell? ⟨b0, j, none⟩ = #[(.int .i64 ar : Value), .slice a1 n1 c1, .slice a2 n2 c2, .int .i64 of, .int .i64 ce, .slice a3 n3 c3, .int .i64 i1, .int .i64 i2, .int .i64 i3, .int .i64 i4, .int .i64 i5][j]?) := fun V hV => Lib.hid fun j => (hV.blk hB1' id).cell j
  have HF2 : ∀ V, Ex W2 V → Hid (∀ (j : Nat), V.cell? ⟨b0 + 1, j, none⟩ = #[(.int .i64 ar : Value), .slice p1 n1 q1, .slice p2 n2 q2, .int .i64 of, .int .i64 ce, .slice p3 n3 q3, .int .i64 i1, .int .i64 i2, .int .i64 i3, .int .i64 i4, .int .i64 i5][j]?) := fun V hV => Lib.hid fun j => (hV.blk hB2 id).cell j
  have HW1 := Lib.hid hW1; have HW2 := Lib.hid hW2; have Hb0 := Lib.hid hb0; have Hs1 := Lib.hid hs1
  clear hX1 hX12 hB1 hB2 hB1' hW1 hW2 hb0 hs1
  go_enter Tryz.func52, Tryz.ntmps52
  go_upto_region 1 with fail
  rw [HW1.out, Hb0.out]
  try rw [HW2.out]
  try rw [Hs1.out]
  have x1 := ((HF1 W2 (Keeps.refl _ _)).out 1).trans rfl
  have y1 := ((HF2 W2 (Keeps.refl _ _)).out 1).trans rfl
  have x2 := ((HF1 W2 (Keeps.refl _ _)).out 2).trans rfl
  have y2 := ((HF2 W2 (Keeps.refl _ _)).out 2).trans rfl
  have x5 := ((HF1 W2 (Keeps.refl _ _)).out 5).trans rfl
  have y5 := ((HF2 W2 (Keeps.refl _ _)).out 5).trans rfl
  go_wp2_with fail
  refine (HA1 _ HX2.out).out.mono ?_
  rintro e w3 ⟨rfl, hx3⟩
  have HX3 := Lib.hid hx3
  clear hx3 x1 x2 x5 y1 y2 y5
  have x2 := ((HF1 w3 HX3.out).out 2).trans rfl
  have y2 := ((HF2 w3 HX3.out).out 2).trans rfl
  have x5 := ((HF1 w3 HX3.out).out 5).trans rfl
  have y5 := ((HF2 w3 HX3.out).out 5).trans rfl
  go_wp2_with fail
  refine (HA2 _ (HX2.out.trans HX3.out)).out.mono ?_
  rintro e w4 ⟨rfl, hx4⟩
  have HX4 := Lib.hid (HX3.out.trans hx4)
  clear hx4 x2 y2 x5 y5
  go_wp2_with fail
  go_loopw [5] (fun s wr => ∃ k : Nat, k ≤ n3 ∧ s = .int .i64 k ∧ Hid (Ex W2 wr)) (fun s wr => n3 - (intOf s).toNat)
  case atStart => exact ⟨0, Nat.zero_le _, rfl, HX4⟩
  case round =>
  obtain ⟨k, hk, rfl, HX⟩ := hrel
  have x5 := ((HF1 wr HX.out).out 5).trans rfl
  have y5 := ((HF2 wr HX.out).out 5).trans rfl
  by_cases hlt : k < n3
  case pos =>
    obtain ⟨ad, rfl⟩ := rd_some (enc := encV) (w := w) (c := c3) Ha3.out Hn3.out hlt
    obtain ⟨bd, rfl⟩ := rd_some (enc := encV) (w := w) (c := q3) Hp3.out Hn3.out hlt
    obtain ⟨v, hv⟩ : ∃ v, vs[k]? = some v := ⟨_, List.getElem?_eq_getElem (by rw [Hn3.out]; exact hlt)⟩
    obtain ⟨A, hA⟩ : ∃ A, ad.add (k * 4) = A := ⟨_, rfl⟩
    obtain ⟨B, hB⟩ : ∃ B, bd.add (k * 4) = B := ⟨_, rfl⟩
    obtain ⟨z0, z1, z2, z3⟩ := rdV_at (HV1.out.ext (HX2.out.trans HX.out)) hv hA
    obtain ⟨t0, t1, t2, t3⟩ := rdV_at (HV2.out.ext (HX2.out.trans HX.out)) hv hB
    have s1 : (k : Int) < n3 := by omega
    have HXd : Hid (Ex W2 wr.drew) := Lib.hid HX.out.drew
    clear hv
    go_upto_region 6 with fail
    go_big_region
    go_wp2_with fail
    exact ⟨⟨k + 1, by omega, by go_num, HXd⟩, by simp [intOf]; omega⟩
  have hkn : k = n3 := by omega
  subst hkn
  clear x5 y5
  have x0 := ((HF1 wr HX.out).out 0).trans rfl
  have y0 := ((HF2 wr HX.out).out 0).trans rfl
  have x3 := ((HF1 wr HX.out).out 3).trans rfl
  have y3 := ((HF2 wr HX.out).out 3).trans rfl
  have x4 := ((HF1 wr HX.out).out 4).trans rfl
  have y4 := ((HF2 wr HX.out).out 4).trans rfl
  have x5 := ((HF1 wr HX.out).out 5).trans rfl
  have y5 := ((HF2 wr HX.out).out 5).trans rfl
  have x6 := ((HF1 wr HX.out).out 6).trans rfl
  have y6 := ((HF2 wr HX.out).out 6).trans rfl
  have x7 := ((HF1 wr HX.out).out 7).trans rfl
  have y7 := ((HF2 wr HX.out).out 7).trans rfl
  have x8 := ((HF1 wr HX.out).out 8).trans rfl
  have y8 := ((HF2 wr HX.out).out 8).trans rfl
  have x9 := ((HF1 wr HX.out).out 9).trans rfl
  have y9 := ((HF2 wr HX.out).out 9).trans rfl
  have x10 := ((HF1 wr HX.out).out 10).trans rfl
  have y10 := ((HF2 wr HX.out).out 10).trans rfl
  go_wp2_with fail
  go_ret
  exact ⟨rfl, HX2.out.trans HX.out⟩
end Go.Proofs.YtlaepkmnbbgbcaaGreatDoor
/- The reference's Same: codes that read alike. (Written by wip/tools/genYN.py.) -/
namespace Go.Proofs.YtlaepkmnbbgbcaaGreatDoor
open Go.RowKit Go.Instr Go.Shelf
set_option linter.unusedVariables false
set_option linter.unusedSimpArgs false
attribute [local go_sem] Oper.semAt_some

set_option maxRecDepth 100000 in
set_option maxHeartbeats 8000000 in
theorem rSame_any {w : World} {dv lv tv rv iv ev mv uv sv jv : Value} {c : Co} {xs ys : List DeV} (h : RdCo w dv lv tv rv iv c xs) (h' : RdCo w ev mv uv sv jv c ys) (hb : Big c) :
    Calls Tryz.prog 16 #[codeV dv lv tv rv iv, codeV ev mv uv sv jv] w fun e w' => e = .returned (.bool true) ∧ Ex w w' := by
  have he : xs.map (·.d) = ys.map (·.d) := h.eq.trans h'.eq.symm
  have hll : ∀ x ∈ xs, x.d.chain.length ≤ 1000000 ∧ x.d.up.length ≤ 1000000 ∧ x.d.virts.length ≤ 1000000 := fun x hx => hb.e x.d (by rw [← h.eq]; exact List.mem_map_of_mem hx)
  have hxl : xs.length ≤ 1000000 := by have := hb.d; rw [h.len]; exact this
  have hl2 : ys.length = xs.length := by rw [h.len, h'.len]
  obtain ⟨a1, c1, rfl, -, ha1, -⟩ := id h.ds
  obtain ⟨a2, c2, rfl, -, ha2, -⟩ := id h.ls
  obtain ⟨a3, c3, rfl, -, ha3, -⟩ := id h.ts
  obtain ⟨a4, c4, rfl, -, ha4, -⟩ := id h.rs
  obtain ⟨a5, c5, rfl, -, ha5, -⟩ := id h.is
  obtain ⟨p1, q1, rfl, -, hp1, -⟩ := id h'.ds
  obtain ⟨p2, q2, rfl, -, hp2, -⟩ := id h'.ls
  obtain ⟨p3, q3, rfl, -, hp3, -⟩ := id h'.ts
  obtain ⟨p4, q4, rfl, -, hp4, -⟩ := id h'.rs
  obtain ⟨p5, q5, rfl, -, hp5, -⟩ := id h'.is
  rw [hl2]
  have m2 : c.labels.length ≤ 1000000 := hb.l
  have m3 : c.texts.length ≤ 1000000 := hb.t
  have m4 : c.reals.length ≤ 1000000 := hb.r
  have m5 : c.instrs.length ≤ 1000000 := hb.i
  have H := Lib.hid h; have H' := Lib.hid h'; have Hl2 := Lib.hid hl2; have He := Lib.hid he; have Hll := Lib.hid hll
  have Ha1 := Lib.hid ha1; have Ha2 := Lib.hid ha2; have Ha3 := Lib.hid ha3; have Ha4 := Lib.hid ha4; have Ha5 := Lib.hid ha5
  have Hp1 := Lib.hid hp1; have Hp2 := Lib.hid hp2; have Hp3 := Lib.hid hp3; have Hp4 := Lib.hid hp4; have Hp5 := Lib.hid hp5
  obtain ⟨n1, hn1⟩ : ∃ n, xs.length = n := ⟨_, rfl⟩
  obtain ⟨n2, hn2⟩ : ∃ n, c.labels.length = n := ⟨_, rfl⟩
  obtain ⟨n3, hn3⟩ : ∃ n, c.texts.length = n := ⟨_, rfl⟩
  obtain ⟨n4, hn4⟩ : ∃ n, c.reals.length = n := ⟨_, rfl⟩
  obtain ⟨n5, hn5⟩ : ∃ n, c.instrs.length = n := ⟨_, rfl⟩
  rw [hn1] at hxl Hl2
  rw [hn2] at m2
  rw [hn3] at m3
  rw [hn4] at m4
  rw [hn5] at m5
  rw [hn1, hn2, hn3, hn4, hn5] at H
  rw [show ys.length = n1 from hl2.trans hn1, hn2, hn3, hn4, hn5] at H'
  rw [hn1, hn2, hn3, hn4, hn5]
  have Hn1 := Lib.hid hn1; have Hn2 := Lib.hid hn2; have Hn3 := Lib.hid hn3; have Hn4 := Lib.hid hn4; have Hn5 := Lib.hid hn5
  clear h h' hb he hll hl2 ha1 ha2 ha3 ha4 ha5 hp1 hp2 hp3 hp4 hp5 hn1 hn2 hn3 hn4 hn5
  unfold codeV
  obtain ⟨W1, hW1⟩ : ∃ W1, w.alloc (.cells #[.slice a1 n1 c1, .slice a2 n2 c2, .slice a3 n3 c3, .slice a4 n4 c4, .slice a5 n5 c5] 28) = W1 := ⟨_, rfl⟩
  obtain ⟨b0, hb0⟩ : ∃ b0, w.heap.size = b0 := ⟨_, rfl⟩
  have hX1 : Ex w W1 := by rw [← hW1]; exact (Keeps.refl _ w).alloc _
  have hB1 : Blk W1 b0 #[.slice a1 n1 c1, .slice a2 n2 c2, .slice a3 n3 c3, .slice a4 n4 c4, .slice a5 n5 c5] 28 := by rw [← hW1, ← hb0]; exact Blk.new w _ _
  have hs1 : W1.heap.size = b0 + 1 := by rw [← hW1, ← hb0, World.size_alloc]
  obtain ⟨W2, hW2⟩ : ∃ W2, W1.alloc (.cells #[.slice p1 n1 q1, .slice p2 n2 q2, .slice p3 n3 q3, .slice p4 n4 q4, .slice p5 n5 q5] 28) = W2 := ⟨_, rfl⟩
  have hX12 : Ex W1 W2 := by rw [← hW2]; exact (Keeps.refl _ W1).alloc _
  have hB2 : Blk W2 (b0 + 1) #[.slice p1 n1 q1, .slice p2 n2 q2, .slice p3 n3 q3, .slice p4 n4 q4, .slice p5 n5 q5] 28 := by rw [← hW2, ← hs1]; exact Blk.new W1 _ _
  have hB1' := hX12.blk hB1 id
  have HX2 := Lib.hid (hX1.trans hX12)
  have HF1 : ∀ V, Ex W2 V → Hid (∀ (j : Nat), V.cell? ⟨b0, j, none⟩ = #[(.slice a1 n1 c1 : Value), .slice a2 n2 c2, .slice a3 n3 c3, .slice a4 n4 c4, .slice a5 n5 c5][j]?) := fun V hV => Lib.hid fun j => (hV.blk hB1' id).cell j
  have HF2 : ∀ V, Ex W2 V → Hid (∀ (j : Nat), V.cell? ⟨b0 + 1, j, none⟩ = #[(.slice p1 n1 q1 : Value), .slice p2 n2 q2, .slice p3 n3 q3, .slice p4 n4 q4, .slice p5 n5 q5][j]?) := fun V hV => Lib.hid fun j => (hV.blk hB2 id).cell j
  have HW1 := Lib.hid hW1; have HW2 := Lib.hid hW2; have Hb0 := Lib.hid hb0; have Hs1 := Lib.hid hs1
  clear hX1 hX12 hB1 hB2 hB1' hW1 hW2 hb0 hs1
  go_enter Tryz.func16, Tryz.ntmps16
  go_upto_region 1 with fail
  rw [HW1.out, Hb0.out]
  try rw [HW2.out]
  try rw [Hs1.out]
  have x0 := ((HF1 W2 (Keeps.refl _ _)).out 0).trans rfl
  have y0 := ((HF2 W2 (Keeps.refl _ _)).out 0).trans rfl
  have x1 := ((HF1 W2 (Keeps.refl _ _)).out 1).trans rfl
  have y1 := ((HF2 W2 (Keeps.refl _ _)).out 1).trans rfl
  have x2 := ((HF1 W2 (Keeps.refl _ _)).out 2).trans rfl
  have y2 := ((HF2 W2 (Keeps.refl _ _)).out 2).trans rfl
  have x3 := ((HF1 W2 (Keeps.refl _ _)).out 3).trans rfl
  have y3 := ((HF2 W2 (Keeps.refl _ _)).out 3).trans rfl
  have x4 := ((HF1 W2 (Keeps.refl _ _)).out 4).trans rfl
  have y4 := ((HF2 W2 (Keeps.refl _ _)).out 4).trans rfl
  go_wp2_with fail
  clear x0 y0 x1 y1 x2 y2 x3 y3 x4 y4
  have HX4 : Hid (Ex W2 W2) := Lib.hid (Keeps.refl _ W2)
  go_loopw [5, 6] (fun s5 s wr => ∃ k : Nat, k ≤ n1 ∧ s5 = .bool true ∧ s = .int .i64 k ∧ Hid (Ex W2 wr)) (fun s5 s wr => n1 - (intOf s).toNat)
  case atStart => exact ⟨0, Nat.zero_le _, rfl, rfl, HX4⟩
  case round =>
  obtain ⟨k, hk, rfl, rfl, HX⟩ := hrel
  have x0 := ((HF1 wr HX.out).out 0).trans rfl
  have y0 := ((HF2 wr HX.out).out 0).trans rfl
  by_cases hlt : k < n1
  case pos =>
    have s1 : (k : Int) < n1 := by omega
    obtain ⟨ad, rfl⟩ := rd_some (enc := encD) (w := w) (c := c1) Ha1.out Hn1.out hlt
    obtain ⟨bd, rfl⟩ := rd_some (enc := encD) (w := w) (c := q1) Hp1.out Hl2.out hlt
    obtain ⟨x, hx⟩ : ∃ v, xs[k]? = some v := ⟨_, List.getElem?_eq_getElem (by rw [Hn1.out]; exact hlt)⟩
    obtain ⟨y, hy⟩ : ∃ v, ys[k]? = some v := ⟨_, List.getElem?_eq_getElem (by rw [Hl2.out]; exact hlt)⟩
    have hxd : x.d = y.d := by
      have h1 : (xs.map (·.d))[k]? = some x.d := by rw [List.getElem?_map, hx]; rfl
      have h2 : (ys.map (·.d))[k]? = some y.d := by rw [List.getElem?_map, hy]; rfl
      rw [He.out, h2] at h1; exact (Option.some.inj h1).symm
    have hXw := HX2.out.trans HX.out
    have hdx := H.out.de x (List.mem_of_getElem? hx)
    have hdy := H'.out.de y (List.mem_of_getElem? hy)
    have hbd := Hll.out x (List.mem_of_getElem? hx)
    obtain ⟨A, hA⟩ : ∃ A, ad.add (k * 11) = A := ⟨_, rfl⟩
    obtain ⟨B, hB⟩ : ∃ B, bd.add (k * 11) = B := ⟨_, rfl⟩
    have zx := (H.out.ds.ext hXw).deCells hx hA
    have zy := (H'.out.ds.ext hXw).deCells hy hB
    obtain ⟨W4, hW4⟩ : ∃ W4, wr.drew = W4 := ⟨_, rfl⟩
    have hX4 : Ex wr W4 := by rw [← hW4]; exact (Keeps.refl _ _).drew
    have hcall := sameDesc_any (w := W4) hxd ((hdx.ext hXw).ext hX4) ((hdy.ext hXw).ext hX4) hbd.1 hbd.2.1 hbd.2.2
    obtain ⟨xd, xv1, xv2, xv3⟩ := x
    obtain ⟨yd, yv1, yv2, yv3⟩ := y
    obtain ⟨f1, f1c, e1, -⟩ := id hdx.chain
    obtain ⟨f2, f2c, e2, -⟩ := id hdx.up
    obtain ⟨f3, f3c, e3, -⟩ := id hdx.virts
    obtain ⟨g1, g1c, e4, -⟩ := id hdy.chain
    obtain ⟨g2, g2c, e5, -⟩ := id hdy.up
    obtain ⟨g3, g3c, e6, -⟩ := id hdy.virts
    simp only at e1 e2 e3 e4 e5 e6 zx zy
    subst e1; subst e2; subst e3; subst e4; subst e5; subst e6
    unfold encD at hcall
    simp only at hcall
    have HS : Hid (W4.cell? ⟨b0, 0, none⟩ = some (.slice (some ad) n1 c1) ∧ W4.cell? ⟨b0 + 1, 0, none⟩ = some (.slice (some bd) n1 q1) ∧ W4.cell? A = some (.int .i64 xd.around) ∧ W4.cell? ⟨A.block, A.off + 1, none⟩ = some (.slice f1 xd.chain.length f1c) ∧ W4.cell? ⟨A.block, A.off + 2, none⟩ = some (.slice f2 xd.up.length f2c) ∧ W4.cell? ⟨A.block, A.off + 3, none⟩ = some (.int .i64 xd.offset) ∧ W4.cell? ⟨A.block, A.off + 4, none⟩ = some (.int .i64 xd.cells) ∧ W4.cell? ⟨A.block, A.off + 5, none⟩ = some (.slice f3 xd.virts.length f3c) ∧ W4.cell? ⟨A.block, A.off + 6, none⟩ = some (.int .i64 xd.init) ∧ W4.cell? ⟨A.block, A.off + 7, none⟩ = some (.int .i64 xd.enter) ∧ W4.cell? ⟨A.block, A.off + 8, none⟩ = some (.int .i64 xd.do_) ∧ W4.cell? ⟨A.block, A.off + 9, none⟩ = some (.int .i64 xd.exit) ∧ W4.cell? ⟨A.block, A.off + 10, none⟩ = some (.int .i64 xd.stack) ∧ W4.cell? B = some (.int .i64 yd.around) ∧ W4.cell? ⟨B.block, B.off + 1, none⟩ = some (.slice g1 yd.chain.length g1c) ∧ W4.cell? ⟨B.block, B.off + 2, none⟩ = some (.slice g2 yd.up.length g2c) ∧ W4.cell? ⟨B.block, B.off + 3, none⟩ = some (.int .i64 yd.offset) ∧ W4.cell? ⟨B.block, B.off + 4, none⟩ = some (.int .i64 yd.cells) ∧ W4.cell? ⟨B.block, B.off + 5, none⟩ = some (.slice g3 yd.virts.length g3c) ∧ W4.cell? ⟨B.block, B.off + 6, none⟩ = some (.int .i64 yd.init) ∧ W4.cell? ⟨B.block, B.off + 7, none⟩ = some (.int .i64 yd.enter) ∧ W4.cell? ⟨B.block, B.off + 8, none⟩ = some (.int .i64 yd.do_) ∧ W4.cell? ⟨B.block, B.off + 9, none⟩ = some (.int .i64 yd.exit) ∧ W4.cell? ⟨B.block, B.off + 10, none⟩ = some (.int .i64 yd.stack)) := Lib.hid (by
      subst hW4
      exact ⟨x0, y0, zx.1, zx.2.1, zx.2.2.1, zx.2.2.2.1, zx.2.2.2.2.1, zx.2.2.2.2.2.1, zx.2.2.2.2.2.2.1, zx.2.2.2.2.2.2.2.1, zx.2.2.2.2.2.2.2.2.1, zx.2.2.2.2.2.2.2.2.2.1, zx.2.2.2.2.2.2.2.2.2.2, zy⟩)
    have HCall := Lib.hid hcall
    have HX5 := Lib.hid (HX.out.trans hX4)
    have HW4 := Lib.hid hW4
    clear hcall hX4 hW4 zx zy hxd hXw hdx hdy hbd hx hy
    go_upto_region 7 with fail
    clear x0 y0
    refine region_U_plain (n := 9) (fun V => V.cell? ⟨b0, 0, none⟩ = some (.slice (some ad) n1 c1) ∧ V.cell? ⟨b0 + 1, 0, none⟩ = some (.slice (some bd) n1 q1) ∧ V.cell? A = some (.int .i64 xd.around) ∧ V.cell? ⟨A.block, A.off + 1, none⟩ = some (.slice f1 xd.chain.length f1c) ∧ V.cell? ⟨A.block, A.off + 2, none⟩ = some (.slice f2 xd.up.length f2c) ∧ V.cell? ⟨A.block, A.off + 3, none⟩ = some (.int .i64 xd.offset) ∧ V.cell? ⟨A.block, A.off + 4, none⟩ = some (.int .i64 xd.cells) ∧ V.cell? ⟨A.block, A.off + 5, none⟩ = some (.slice f3 xd.virts.length f3c) ∧ V.cell? ⟨A.block, A.off + 6, none⟩ = some (.int .i64 xd.init) ∧ V.cell? ⟨A.block, A.off + 7, none⟩ = some (.int .i64 xd.enter) ∧ V.cell? ⟨A.block, A.off + 8, none⟩ = some (.int .i64 xd.do_) ∧ V.cell? ⟨A.block, A.off + 9, none⟩ = some (.int .i64 xd.exit) ∧ V.cell? ⟨A.block, A.off + 10, none⟩ = some (.int .i64 xd.stack) ∧ V.cell? B = some (.int .i64 yd.around) ∧ V.cell? ⟨B.block, B.off + 1, none⟩ = some (.slice g1 yd.chain.length g1c) ∧ V.cell? ⟨B.block, B.off + 2, none⟩ = some (.slice g2 yd.up.length g2c) ∧ V.cell? ⟨B.block, B.off + 3, none⟩ = some (.int .i64 yd.offset) ∧ V.cell? ⟨B.block, B.off + 4, none⟩ = some (.int .i64 yd.cells) ∧ V.cell? ⟨B.block, B.off + 5, none⟩ = some (.slice g3 yd.virts.length g3c) ∧ V.cell? ⟨B.block, B.off + 6, none⟩ = some (.int .i64 yd.init) ∧ V.cell? ⟨B.block, B.off + 7, none⟩ = some (.int .i64 yd.enter) ∧ V.cell? ⟨B.block, B.off + 8, none⟩ = some (.int .i64 yd.do_) ∧ V.cell? ⟨B.block, B.off + 9, none⟩ = some (.int .i64 yd.exit) ∧ V.cell? ⟨B.block, B.off + 10, none⟩ = some (.int .i64 yd.stack)) 12 (by kernel_rfl) ?_
    rw [HW4.out]
    refine anyU_quiet (a2 := ?a0) 0 rfl rfl rfl (by kernel_rfl) (by kernel_rfl) (by kernel_rfl) (by kernel_rfl) (by kernel_rfl) (by kernel_rfl) (fun _ _ _ _ h => h) HS.out ?h0 ?k0
    case h0 => intro W hW K hK; obtain ⟨t0, t1, t2, t3, t4, t5, t6, t7, t8, t9, t10, t11, t12, t13, t14, t15, t16, t17, t18, t19, t20, t21, t22, t23⟩ := hW; go_simp; exact hK
    refine anyU_quiet (a2 := ?a1) 1 rfl rfl rfl (by kernel_rfl) (by kernel_rfl) (by kernel_rfl) (by kernel_rfl) (by kernel_rfl) (by kernel_rfl) (fun _ _ _ _ h => h) HS.out ?h1 ?k1
    case h1 => intro W hW K hK; obtain ⟨t0, t1, t2, t3, t4, t5, t6, t7, t8, t9, t10, t11, t12, t13, t14, t15, t16, t17, t18, t19, t20, t21, t22, t23⟩ := hW; go_simp; exact hK
    refine anyU_quiet (a2 := ?a2) 2 rfl rfl rfl (by kernel_rfl) (by kernel_rfl) (by kernel_rfl) (by kernel_rfl) (by kernel_rfl) (by kernel_rfl) (fun _ _ _ _ h => h) HS.out ?h2 ?k2
    case h2 => intro W hW K hK; obtain ⟨t0, t1, t2, t3, t4, t5, t6, t7, t8, t9, t10, t11, t12, t13, t14, t15, t16, t17, t18, t19, t20, t21, t22, t23⟩ := hW; go_simp; exact hK
    refine anyU_quiet (a2 := ?a3) 3 rfl rfl rfl (by kernel_rfl) (by kernel_rfl) (by kernel_rfl) (by kernel_rfl) (by kernel_rfl) (by kernel_rfl) (fun _ _ _ _ h => h) HS.out ?h3 ?k3
    case h3 => intro W hW K hK; obtain ⟨t0, t1, t2, t3, t4, t5, t6, t7, t8, t9, t10, t11, t12, t13, t14, t15, t16, t17, t18, t19, t20, t21, t22, t23⟩ := hW; go_simp; exact hK
    refine anyU_quiet (a2 := ?a4) 4 rfl rfl rfl (by kernel_rfl) (by kernel_rfl) (by kernel_rfl) (by kernel_rfl) (by kernel_rfl) (by kernel_rfl) (fun _ _ _ _ h => h) HS.out ?h4 ?k4
    case h4 => intro W hW K hK; obtain ⟨t0, t1, t2, t3, t4, t5, t6, t7, t8, t9, t10, t11, t12, t13, t14, t15, t16, t17, t18, t19, t20, t21, t22, t23⟩ := hW; go_simp; exact hK
    refine anyU_quiet (a2 := ?a5) 5 rfl rfl rfl (by kernel_rfl) (by kernel_rfl) (by kernel_rfl) (by kernel_rfl) (by kernel_rfl) (by kernel_rfl) (fun _ _ _ _ h => h) HS.out ?h5 ?k5
    case h5 => intro W hW K hK; obtain ⟨t0, t1, t2, t3, t4, t5, t6, t7, t8, t9, t10, t11, t12, t13, t14, t15, t16, t17, t18, t19, t20, t21, t22, t23⟩ := hW; go_simp; exact hK
    refine anyU_quiet (a2 := ?a6) 6 rfl rfl rfl (by kernel_rfl) (by kernel_rfl) (by kernel_rfl) (by kernel_rfl) (by kernel_rfl) (by kernel_rfl) (fun _ _ _ _ h => h) HS.out ?h6 ?k6
    case h6 => intro W hW K hK; obtain ⟨t0, t1, t2, t3, t4, t5, t6, t7, t8, t9, t10, t11, t12, t13, t14, t15, t16, t17, t18, t19, t20, t21, t22, t23⟩ := hW; go_simp; exact hK
    refine anyU_quiet (a2 := ?a7) 7 rfl rfl rfl (by kernel_rfl) (by kernel_rfl) (by kernel_rfl) (by kernel_rfl) (by kernel_rfl) (by kernel_rfl) (fun _ _ _ _ h => h) HS.out ?h7 ?k7
    case h7 => intro W hW K hK; obtain ⟨t0, t1, t2, t3, t4, t5, t6, t7, t8, t9, t10, t11, t12, t13, t14, t15, t16, t17, t18, t19, t20, t21, t22, t23⟩ := hW; go_simp; exact hK
    refine anyU_quiet (a2 := ?a8) 8 rfl rfl rfl (by kernel_rfl) (by kernel_rfl) (by kernel_rfl) (by kernel_rfl) (by kernel_rfl) (by kernel_rfl) (fun _ _ _ _ h => h) HS.out ?h8 ?k8
    case h8 => intro W hW K hK; obtain ⟨t0, t1, t2, t3, t4, t5, t6, t7, t8, t9, t10, t11, t12, t13, t14, t15, t16, t17, t18, t19, t20, t21, t22, t23⟩ := hW; go_simp; exact hK
    refine anyU_quiet (a2 := ?a9) 9 rfl rfl rfl (by kernel_rfl) (by kernel_rfl) (by kernel_rfl) (by kernel_rfl) (by kernel_rfl) (by kernel_rfl) (fun _ _ _ _ h => h) HS.out ?h9 ?k9
    case h9 => intro W hW K hK; obtain ⟨t0, t1, t2, t3, t4, t5, t6, t7, t8, t9, t10, t11, t12, t13, t14, t15, t16, t17, t18, t19, t20, t21, t22, t23⟩ := hW; go_simp; exact hK
    refine anyU_quiet (a2 := ?a10) 10 rfl rfl rfl (by kernel_rfl) (by kernel_rfl) (by kernel_rfl) (by kernel_rfl) (by kernel_rfl) (by kernel_rfl) (fun _ _ _ _ h => h) HS.out ?h10 ?k10
    case h10 => intro W hW K hK; obtain ⟨t0, t1, t2, t3, t4, t5, t6, t7, t8, t9, t10, t11, t12, t13, t14, t15, t16, t17, t18, t19, t20, t21, t22, t23⟩ := hW; go_simp; exact hK
    refine anyU_quiet (a2 := ?a11) 11 rfl rfl rfl (by kernel_rfl) (by kernel_rfl) (by kernel_rfl) (by kernel_rfl) (by kernel_rfl) (by kernel_rfl) (fun _ _ _ _ h => h) HS.out ?h11 ?k11
    case h11 => intro W hW K hK; obtain ⟨t0, t1, t2, t3, t4, t5, t6, t7, t8, t9, t10, t11, t12, t13, t14, t15, t16, t17, t18, t19, t20, t21, t22, t23⟩ := hW; go_simp; exact hK
    refine anyU_only 12 rfl (by kernel_rfl) ?_
    gi_wp2_with fail
    refine (callsIn_WF HCall.out).mono ?_
    rintro e w6 ⟨rfl, hx6⟩
    have HX6 := Lib.hid (HX5.out.trans hx6)
    clear hx6
    gi_wp2
    refine And.intro (.inl (by kernel_rfl)) ?_
    refine anyU_only 13 rfl (by kernel_rfl) ?_
    gi_wp2
    refine And.intro (.inl (by kernel_rfl)) ?_
    refine anyU_only 14 rfl (by kernel_rfl) ?_
    gi_wp2
    refine And.intro (.inl (by kernel_rfl)) ?_
    refine anyU_done (by kernel_rfl) ?_ _
    clear HS HCall
    go_wp2_with fail
    go_roundw
    case rel => exact ⟨k + 1, by omega, rfl, by go_num, HX6⟩
    case measure => simp [intOf]; omega
  have HX4 := HX
  go_wp2_with fail
  clear x0 y0
  go_loopw [5, 7] (fun s5 s wr => ∃ k : Nat, k ≤ n2 ∧ s5 = .bool true ∧ s = .int .i64 k ∧ Hid (Ex W2 wr)) (fun s5 s wr => n2 - (intOf s).toNat)
  case atStart => exact ⟨0, Nat.zero_le _, rfl, rfl, HX4⟩
  case round =>
  obtain ⟨k, hk, rfl, rfl, HX⟩ := hrel
  have x1 := ((HF1 wr HX.out).out 1).trans rfl
  have y1 := ((HF2 wr HX.out).out 1).trans rfl
  by_cases hlt : k < n2
  case pos =>
    have s1 : (k : Int) < n2 := by omega
    obtain ⟨ad, rfl⟩ := rd_some (enc := encL) (w := w) (c := c2) Ha2.out Hn2.out hlt
    obtain ⟨bd, rfl⟩ := rd_some (enc := encL) (w := w) (c := q2) Hp2.out Hn2.out hlt
    have hXw := HX2.out.trans HX.out
    obtain ⟨v, hv⟩ : ∃ v, c.labels[k]? = some v := ⟨_, List.getElem?_eq_getElem (by rw [Hn2.out]; exact hlt)⟩
    obtain ⟨A, hA⟩ : ∃ A, ad.add (k * 2) = A := ⟨_, rfl⟩
    obtain ⟨B, hB⟩ : ∃ B, bd.add (k * 2) = B := ⟨_, rfl⟩
    obtain ⟨z0, z1⟩ := rdL_at (H.out.ls.ext hXw) hv hA
    obtain ⟨t0, t1⟩ := rdL_at (H'.out.ls.ext hXw) hv hB
    clear hv
    have HX5 : Hid (Ex W2 wr.drew) := Lib.hid HX.out.drew
    clear hXw
    go_upto_region 11 with fail
    go_big_region
    go_wp2_with fail
    exact ⟨⟨k + 1, by omega, rfl, by go_num, HX5⟩, by simp [intOf]; omega⟩
  have HX4 := HX
  go_wp2_with fail
  clear x1 y1
  go_loopw [5, 8] (fun s5 s wr => ∃ k : Nat, k ≤ n3 ∧ s5 = .bool true ∧ s = .int .i64 k ∧ Hid (Ex W2 wr)) (fun s5 s wr => n3 - (intOf s).toNat)
  case atStart => exact ⟨0, Nat.zero_le _, rfl, rfl, HX4⟩
  case round =>
  obtain ⟨k, hk, rfl, rfl, HX⟩ := hrel
  have x2 := ((HF1 wr HX.out).out 2).trans rfl
  have y2 := ((HF2 wr HX.out).out 2).trans rfl
  by_cases hlt : k < n3
  case pos =>
    have s1 : (k : Int) < n3 := by omega
    obtain ⟨ad, rfl⟩ := rd_some (enc := encS) (w := w) (c := c3) Ha3.out Hn3.out hlt
    obtain ⟨bd, rfl⟩ := rd_some (enc := encS) (w := w) (c := q3) Hp3.out Hn3.out hlt
    have hXw := HX2.out.trans HX.out
    have z0 := (H.out.ts.ext hXw).str_at (k := k) (by rw [Hn3.out]; exact hlt)
    have t0 := (H'.out.ts.ext hXw).str_at (k := k) (by rw [Hn3.out]; exact hlt)
    generalize c.texts.getD k ⟨#[]⟩ = S at z0 t0
    have HX5 : Hid (Ex W2 wr.drew) := Lib.hid HX.out.drew
    clear hXw
    go_upto_region 15 with fail
    go_big_region
    go_wp2_with fail
    exact ⟨⟨k + 1, by omega, rfl, by go_num, HX5⟩, by simp [intOf]; omega⟩
  have HX4 := HX
  go_wp2_with fail
  clear x2 y2
  go_loopw [5, 9] (fun s5 s wr => ∃ k : Nat, k ≤ n4 ∧ s5 = .bool true ∧ s = .int .i64 k ∧ Hid (Ex W2 wr)) (fun s5 s wr => n4 - (intOf s).toNat)
  case atStart => exact ⟨0, Nat.zero_le _, rfl, rfl, HX4⟩
  case round =>
  obtain ⟨k, hk, rfl, rfl, HX⟩ := hrel
  have x3 := ((HF1 wr HX.out).out 3).trans rfl
  have y3 := ((HF2 wr HX.out).out 3).trans rfl
  by_cases hlt : k < n4
  case pos =>
    have s1 : (k : Int) < n4 := by omega
    obtain ⟨ad, rfl⟩ := rd_some (enc := encL) (w := w) (c := c4) Ha4.out Hn4.out hlt
    obtain ⟨bd, rfl⟩ := rd_some (enc := encL) (w := w) (c := q4) Hp4.out Hn4.out hlt
    have hXw := HX2.out.trans HX.out
    obtain ⟨v, hv⟩ : ∃ v, c.reals[k]? = some v := ⟨_, List.getElem?_eq_getElem (by rw [Hn4.out]; exact hlt)⟩
    obtain ⟨A, hA⟩ : ∃ A, ad.add (k * 2) = A := ⟨_, rfl⟩
    obtain ⟨B, hB⟩ : ∃ B, bd.add (k * 2) = B := ⟨_, rfl⟩
    obtain ⟨z0, z1⟩ := rdL_at (H.out.rs.ext hXw) hv hA
    obtain ⟨t0, t1⟩ := rdL_at (H'.out.rs.ext hXw) hv hB
    clear hv
    have HX5 : Hid (Ex W2 wr.drew) := Lib.hid HX.out.drew
    clear hXw
    go_upto_region 19 with fail
    go_big_region
    go_wp2_with fail
    exact ⟨⟨k + 1, by omega, rfl, by go_num, HX5⟩, by simp [intOf]; omega⟩
  have HX4 := HX
  go_wp2_with fail
  clear x3 y3
  go_loopw [5, 10] (fun s5 s wr => ∃ k : Nat, k ≤ n5 ∧ s5 = .bool true ∧ s = .int .i64 k ∧ Hid (Ex W2 wr)) (fun s5 s wr => n5 - (intOf s).toNat)
  case atStart => exact ⟨0, Nat.zero_le _, rfl, rfl, HX4⟩
  case round =>
  obtain ⟨k, hk, rfl, rfl, HX⟩ := hrel
  have x4 := ((HF1 wr HX.out).out 4).trans rfl
  have y4 := ((HF2 wr HX.out).out 4).trans rfl
  by_cases hlt : k < n5
  case pos =>
    have s1 : (k : Int) < n5 := by omega
    obtain ⟨ad, rfl⟩ := rd_some (enc := encN) (w := w) (c := c5) Ha5.out Hn5.out hlt
    obtain ⟨bd, rfl⟩ := rd_some (enc := encN) (w := w) (c := q5) Hp5.out Hn5.out hlt
    have hXw := HX2.out.trans HX.out
    obtain ⟨v, hv⟩ : ∃ v, c.instrs[k]? = some v := ⟨_, List.getElem?_eq_getElem (by rw [Hn5.out]; exact hlt)⟩
    obtain ⟨A, hA⟩ : ∃ A, ad.add (k * 3) = A := ⟨_, rfl⟩
    obtain ⟨B, hB⟩ : ∃ B, bd.add (k * 3) = B := ⟨_, rfl⟩
    obtain ⟨z0, z1, z2⟩ := (H.out.is.ext hXw).insCells hv hA
    obtain ⟨t0, t1, t2⟩ := (H'.out.is.ext hXw).insCells hv hB
    clear hv
    have HX5 : Hid (Ex W2 wr.drew) := Lib.hid HX.out.drew
    clear hXw
    go_upto_region 23 with fail
    go_big_region
    go_wp2_with fail
    exact ⟨⟨k + 1, by omega, rfl, by go_num, HX5⟩, by simp [intOf]; omega⟩
  have HX4 := HX
  go_wp2_with fail
  go_ret
  exact ⟨rfl, HX2.out.trans HX4.out⟩
end Go.Proofs.YtlaepkmnbbgbcaaGreatDoor
/- The reference's Valid of codes. -/
namespace Go.Proofs.YtlaepkmnbbgbcaaGreatDoor
open Go.RowKit Go.Instr Go.Sort
set_option linter.unusedVariables false
set_option linter.unusedSimpArgs false
attribute [local go_sem] Oper.semAt_some

theorem run_field_found (a b : Value) (w : World) : (Instr.field 58 (.agg #[a, b]) 0).run Tryz.prog w = .ok a w := by
  simp [Instr.field, run_underlying Tryz.underlying58, asAgg, part]
set_option maxRecDepth 100000 in
set_option maxHeartbeats 4000000 in
theorem rValid_any {w : World} {dv lv tv rv iv : Value} {c : Co} {xs : List DeV} (h : RdCo w dv lv tv rv iv c xs) (hb : Big c) (hI : ∀ x ∈ c.reals, I64 x.1) :
    Calls Tryz.prog 15 #[codeV dv lv tv rv iv] w fun e w' => e = .returned (.bool (decide ((chk c).1 = 0))) ∧ Ex w w' := by
  obtain ⟨W1, hW1⟩ : ∃ W1, w.alloc (.cells #[dv, lv, tv, rv, iv] 28) = W1 := ⟨_, rfl⟩
  obtain ⟨b0, hb0⟩ : ∃ b0, w.heap.size = b0 := ⟨_, rfl⟩
  have hX1 : Ex w W1 := by rw [← hW1]; exact (Keeps.refl _ w).alloc _
  have hB0 : Blk W1 b0 #[dv, lv, tv, rv, iv] 28 := by rw [← hW1, ← hb0]; exact Blk.new w _ _
  have hc := rCheck_any (h.ext hX1) hb hI
  obtain ⟨da, dc, rfl, -⟩ := id h.ds
  obtain ⟨la, lc, rfl, -⟩ := id h.ls
  obtain ⟨ta, tc, rfl, -⟩ := id h.ts
  obtain ⟨ra, rc, rfl, -⟩ := id h.rs
  obtain ⟨ia, ic, rfl, -⟩ := id h.is
  have x0 : W1.cell? ⟨b0, 0, none⟩ = some (.slice da xs.length dc) := (hB0.cell 0).trans rfl
  have x1 : W1.cell? ⟨b0, 1, none⟩ = some (.slice la c.labels.length lc) := (hB0.cell 1).trans rfl
  have x2 : W1.cell? ⟨b0, 2, none⟩ = some (.slice ta c.texts.length tc) := (hB0.cell 2).trans rfl
  have x3 : W1.cell? ⟨b0, 3, none⟩ = some (.slice ra c.reals.length rc) := (hB0.cell 3).trans rfl
  have x4 : W1.cell? ⟨b0, 4, none⟩ = some (.slice ia c.instrs.length ic) := (hB0.cell 4).trans rfl
  unfold codeV at hc ⊢
  have HG := Lib.hid (good_iff c)
  have HW1 := Lib.hid hW1; have Hb0 := Lib.hid hb0; have HX1 := Lib.hid hX1; have HC := Lib.hid hc
  clear hW1 hb0 hX1 hB0 hc h hb hI
  go_enter Tryz.func15, Tryz.ntmps15
  go_upto_region 1 with fail
  rw [HW1.out]
  try rw [Hb0.out]
  go_wp2_with fail
  refine HC.out.mono ?_
  rintro e w2 ⟨E, at_, rfl, hE, hx⟩
  have HX := Lib.hid (HX1.out.trans hx)
  have hr : decide ((chk c).1 = 0) = (E == 0) := by
    rw [Bool.eq_iff_iff, decide_eq_true_eq, beq_iff_eq, HG.out, hE]
  have Hr := Lib.hid hr
  clear hx hE hr
  have hfl := run_field_found
  go_wp2_with fail
  go_ret
  exact ⟨by rw [Hr.out] <;> rfl, HX.out⟩
end Go.Proofs.YtlaepkmnbbgbcaaGreatDoor
