/- sanity. What the claims about codes share: the listed variables, a world that fits, layout, bulk. -/
import Derived.Test.YtlaepkmnbbgbcaaGreatDoorGB17
import Derived.Test.YtlaepkmnbbgbcaaGreatDoorGB15
import Derived.Test.YtlaepkmnbbgbcaaGreatDoorGB12
import Derived.Test.YtlaepkmnbbgbcaaGreatDoorCards
import Derived.Deep.DeepHandedRow
import Derived.Lay
import Derived.SevenTiedAt
import Derived.Shelf.Vars
import Derived.Lib.LaidU8
import Derived.ProofKit
import Derived.OpenShut
import Derived.JoinedCond
import Derived.Carry
/- sanity. -/
namespace Go.Proofs.YtlaepkmnbbgbcaaGreatDoor
open Go.RowKit Go.Instr Go.Shelf
set_option linter.unusedVariables false
set_option linter.unusedSimpArgs false
attribute [local go_sem] Oper.semAt_some

theorem six_simple : Simple sixC where
  labels := rfl
  reals := rfl
  virts := by intro d hd; obtain rfl : d = sixD := (by simpa [sixC] using hd); rfl
  nums := by
    intro d hd; obtain rfl : d = sixD := (by simpa [sixC] using hd)
    refine ⟨?_, ?_, ?_⟩ <;> intro n hn <;> simp [sixD] at hn <;> unfold I64 <;> omega
  ins := by
    have : ∀ x ∈ sixC.instrs, (-9223372036854775808 ≤ x.a ∧ x.a < 9223372036854775808) ∧ (-9223372036854775808 ≤ x.b ∧ x.b < 9223372036854775808) ∧ (opFind x.op).isSome = true := by decide +kernel
    intro x hx
    obtain ⟨h1, h2, h3⟩ := this x hx
    refine ⟨?_, ?_, ?_⟩
    · unfold I64; omega
    · unfold I64; omega
    · intro e; rw [e] at h3; cases h3
def sixS : ByteArray := ⟨#[68, 69, 83, 67, 32, 45, 49, 32, 48, 32, 49, 32, 52, 32, 45, 49, 32, 55, 32, 45, 49, 32, 51, 32, 49, 32, 48, 32, 48, 10, 84, 69, 88, 84, 32, 34, 54, 34, 10, 110, 111, 110, 101, 10, 112, 97, 116, 116, 101, 114, 110, 32, 48, 10, 110, 101, 119, 32, 48, 10, 114, 111, 111, 116, 10, 105, 110, 116, 32, 48, 10, 112, 111, 112, 10, 114, 101, 116, 117, 114, 110, 10, 105, 110, 116, 32, 48, 10, 112, 117, 116, 10, 114, 101, 116, 117, 114, 110, 10]⟩
theorem six_print : (⟨(printL sixC).toArray⟩ : ByteArray) = sixS := by decide +kernel
theorem six_lens : (∀ l ∈ linesL sixC, l.length ≤ 100000000) ∧ (linesL sixC).length ≤ 1000000 := by decide +kernel
theorem six_check {w : World} {n : Nat} (h : SixB w n ⟨#[54]⟩) : Calls Tryz.prog 26 #[sixV n] w fun e w' => e = .returned (.tuple #[.int .i64 0, .int .i64 (-1)]) ∧ Ex w w' := by
  refine (Check_any h.rd (six_big _ (by decide))).mono ?_
  rintro e w' ⟨h1, h2⟩
  rw [show (⟨[sixD], [], [⟨#[54]⟩], [], sixI⟩ : Co) = sixC from rfl, six_chk] at h1
  exact ⟨h1, h2⟩
theorem six_printed {w : World} {n : Nat} (h : SixB w n ⟨#[54]⟩) (ht : Tab w) : Calls Tryz.prog 18 #[sixV n] w fun e w' => e = .returned (.tuple #[.string sixS, .int .i64 0]) ∧ Ex w w' := by
  refine (Print_any (c := sixC) h.rd ht (six_big _ (by decide)) six_simple (by rw [six_chk]) six_lens.1 six_lens.2).mono ?_
  rintro e w' ⟨h1, h2⟩
  rw [six_print] at h1
  exact ⟨h1, h2⟩
theorem six_entries {w : World} {n : Nat} (h : SixB w n ⟨#[54]⟩) : Calls Tryz.prog 37 #[sixV n] w fun e w' => ∃ v, e = .returned (.tuple #[v, .int .i64 0]) ∧ RdL encI w' v [0, 4, 7] ∧ Ex w w' := by
  refine (Entries_any (c := sixC) h.rd (six_big _ (by decide))).mono ?_
  intro e w' he
  unfold EntR at he
  rw [if_pos (by rw [six_chk]), entries_six] at he
  obtain ⟨v, h1, h2, h3⟩ := he
  refine ⟨v, h1, ?_, h3⟩
  have := h2
  unfold OwnI at this
  rw [← encI_flat] at this
  exact own_rd encI_len this
theorem run_field_code (a b c d e : Value) (w : World) : (Instr.field 28 (.agg #[a, b, c, d, e]) 0).run Tryz.prog w = .ok a w := by
  simp [Instr.field, run_underlying Tryz.underlying28, asAgg, part]
theorem SixB.ext {w w' : World} {n : Nat} {tx : ByteArray} (h : SixB w n tx) (hx : Ex w w') : SixB w' n tx := ⟨hx.blk h.b1 id, hx.blk h.b2 id, hx.blk h.b4 id, hx.blk h.b5 id, hx.blk h.b6 id⟩
theorem bad_check {w : World} {n b : Nat} {tx : ByteArray} (h : SixB w n tx) (hb : Blk w b #[.string ⟨#[48, 54]⟩] 9) :
    Calls Tryz.prog 26 #[codeV (ints (n + 5) 1) (.slice none 0 0) (ints b 1) (.slice none 0 0) (ints (n + 4) 10)] w fun e w' => e = .returned (.tuple #[.int .i64 3, .int .i64 4]) ∧ Ex w w' := by
  have hr := h.rd
  have hr2 : RdCo w (ints (n + 5) 1) (.slice none 0 0) (ints b 1) (.slice none 0 0) (ints (n + 4) 10) badC [⟨sixD, ints (n + 1) 1, ints (n + 2) 1, .slice none 0 0⟩] :=
    { ds := hr.ds, de := hr.de, eq := hr.eq, ls := hr.ls, ts := Blk.rd (l := [(⟨#[48, 54]⟩ : ByteArray)]) (by simpa [encS] using hb) (Nat.le_refl _), rs := hr.rs, is := hr.is }
  refine (Check_any hr2 (six_big _ (by decide))).mono ?_
  rintro e w' ⟨h1, h2⟩
  rw [bad_chk] at h1
  exact ⟨h1, h2⟩
def jumpD : De := ⟨-1, [0], [0], 0, 1, [], -1, -1, 2, -1, 3⟩
def jumpI : List Ins := [⟨42, 1, 0⟩, ⟨53, 5, 0⟩, ⟨36, 0, 0⟩]
theorem jump_strip {w : World} {n b : Nat} (h1 : Blk w (n + 1) #[.int .i64 0] 3) (h2 : Blk w (n + 2) #[.int .i64 0] 3) (h5 : Blk w (n + 5) #[.int .i64 (-1), ints (n + 1) 1, ints (n + 2) 1, .int .i64 0, .int .i64 1, .slice none 0 0, .int .i64 (-1), .int .i64 (-1), .int .i64 2, .int .i64 (-1), .int .i64 3] 50)
    (hb : Blk w b #[.int .i64 42, .int .i64 1, .int .i64 0, .int .i64 53, .int .i64 5, .int .i64 0, .int .i64 36, .int .i64 0, .int .i64 0] 82) :
    Calls Tryz.prog 14 #[codeV (ints (n + 5) 1) (.slice none 0 0) (.slice none 0 0) (.slice none 0 0) (ints b 3)] w fun e w' =>
      ∃ da dc la l0 lc ta t0 tc ra r0 rc ia ic, e = .returned (.tuple #[codeV (.slice (some da) 1 dc) (.slice la l0 lc) (.slice ta t0 tc) (.slice ra r0 rc) (.slice (some ia) 2 ic), .int .i64 0]) ∧ w'.cell? ⟨ia.block, ia.off + 1, none⟩ = some (.int .i64 1) ∧ w'.cell? ⟨da.block, da.off + 8, none⟩ = some (.int .i64 1) ∧ Ex w w' := by
  have hr : RdCo w (ints (n + 5) 1) (.slice none 0 0) (.slice none 0 0) (.slice none 0 0) (ints b 3) jumpC [⟨jumpD, ints (n + 1) 1, ints (n + 2) 1, .slice none 0 0⟩] :=
    { ds := Blk.rd (l := [(⟨jumpD, ints (n + 1) 1, ints (n + 2) 1, .slice none 0 0⟩ : DeV)]) (by simp only [List.flatMap_cons, List.flatMap_nil, List.append_nil]; exact h5) (Nat.le_refl _)
      de := by
        intro x hx
        obtain rfl : x = _ := by simpa using hx
        exact ⟨Blk.rd (l := [0]) (by simpa [encI] using h1) (Nat.le_refl _), Blk.rd (l := [0]) (by simpa [encI] using h2) (Nat.le_refl _), RdL.nil _⟩
      eq := rfl
      ls := RdL.nil _
      ts := RdL.nil _
      rs := RdL.nil _
      is := Blk.rd (l := jumpI) hb (Nat.le_refl _) }
  have hbig : Big jumpC :=
    { d := by show 1 ≤ 1000000; omega
      l := by show 0 ≤ 1000000; omega
      t := by show 0 ≤ 1000000; omega
      r := by show 0 ≤ 1000000; omega
      i := by show 3 ≤ 1000000; omega
      s := by intro s hs; cases hs
      e := by
        intro d hd
        have : d = jumpD := by simpa [jumpC, jumpD] using hd
        rw [this]; decide }
  refine (Strip_any hr hbig).mono ?_
  intro e w' he
  unfold StripR at he
  rw [if_pos (by rw [jump_chk]), if_neg (by decide)] at he
  obtain ⟨dv, lv, tv, rv, iv, xs, rfl, hr, hx⟩ := he
  have hi := hr.is
  have hd := hr.ds
  have hxl : xs.length = 1 := by rw [hr.len]; rfl
  obtain ⟨ia, ic, rfl, -, hi0, -⟩ := id hi
  obtain ⟨da, dc, rfl, -, hd0, -⟩ := id hd
  obtain ⟨la, lc, rfl, -⟩ := id hr.ls
  obtain ⟨ta, tc, rfl, -⟩ := id hr.ts
  obtain ⟨ra, rc, rfl, -⟩ := id hr.rs
  have hil : (stripC jumpC).instrs = [⟨42, 1, 0⟩, ⟨36, 0, 0⟩] := by decide
  rw [hil] at hi0 hi
  obtain ⟨ia, rfl⟩ : ∃ a, ia = some a := by
    cases ia with
    | none => cases hi0 rfl
    | some a => exact ⟨a, rfl⟩
  obtain ⟨da, rfl⟩ : ∃ a, da = some a := by
    cases da with
    | none => rw [hd0 rfl] at hxl; cases hxl
    | some a => exact ⟨a, rfl⟩
  obtain ⟨y, rfl⟩ : ∃ y, xs = [y] := List.length_eq_one_iff.1 hxl
  have hyd : y.d.do_ = 1 := by
    have := hr.eq
    have h2 : (stripC jumpC).descs.map De.do_ = [1] := by decide
    rw [← this] at h2
    simpa using h2
  have a1 : ia.add (0 * 3) = ia := by rw [Nat.zero_mul, Addr.add_zero']
  have a2 : da.add (0 * 11) = da := by rw [Nat.zero_mul, Addr.add_zero']
  obtain ⟨-, z1, -⟩ := hi.insCells (k := 0) rfl a1
  obtain ⟨-, -, -, -, -, -, -, -, z8, -⟩ := hd.deCells (i := 0) rfl a2
  rw [hyd] at z8
  exact ⟨da, dc, la, _, lc, ta, _, tc, ra, _, rc, ia, ic, by rw [hil]; rfl, z1, z8, hx⟩
set_option maxRecDepth 100000 in
set_option maxHeartbeats 8000000 in
theorem sanity_any {w : World} (hm : Mx w) (ht : Tab w) : Calls Tryz.prog 13 #[] w fun e w' => e = .returned (.bool true) ∧ Ex w w' := by
  have Hm := Lib.hid hm; have Ht := Lib.hid ht
  clear hm ht
  go_enter Tryz.func13, Tryz.ntmps13
  go_wp2_with (go_at_call 45; refine Six_any.mono ?_)
  rintro e w1 ⟨rfl, hs1, hx1⟩
  have HK := Lib.hid (six_check hs1)
  have HX1 := Lib.hid hx1
  clear hs1 hx1
  generalize sixV w.heap.size = S1 at HK ⊢
  go_wp2_with (go_at_call 26; refine HK.out.mono ?_)
  rintro e w2 ⟨rfl, hx2⟩
  have HX2 := Lib.hid (HX1.out.trans hx2)
  clear hx2 HK
  go_wp2_with (go_at_call 45; refine Six_any.mono ?_)
  rintro e w3 ⟨rfl, hs3, hx3⟩
  have HX3 := Lib.hid (HX2.out.trans hx3)
  have HK := Lib.hid (six_printed hs3 (Ht.out.ext HX3.out))
  clear hs3 hx3
  generalize sixV w2.heap.size = S2 at HK ⊢
  go_wp2_with (go_at_call 18; refine HK.out.mono ?_)
  rintro e w4 ⟨rfl, hx4⟩
  have HX4 := Lib.hid (HX3.out.trans hx4)
  clear hx4 HK
  go_wp2_with (go_at_call 45; refine Six_any.mono ?_)
  rintro e w5 ⟨rfl, hs5, hx5⟩
  have HX5 := Lib.hid (HX4.out.trans hx5)
  have HK := Lib.hid (six_entries hs5)
  clear hs5 hx5
  generalize sixV w4.heap.size = S3 at HK ⊢
  go_wp2_with (go_at_call 37; refine HK.out.mono ?_)
  rintro e w6 ⟨v6, rfl, hr6, hx6⟩
  obtain ⟨a6, c6, rfl, -⟩ := id hr6
  have HX6 := Lib.hid (HX5.out.trans hx6); have HR6 := Lib.hid hr6
  have HK2 := Lib.hid (parse_ex (Hm.out.ext HX6.out) (Ht.out.ext HX6.out))
  clear hx6 hr6 HK
  go_wp2_with (go_at_call 19; refine HK2.out.mono ?_)
  rintro e w7 ⟨rfl, hx7⟩
  have HX7 := Lib.hid (HX6.out.trans hx7)
  have HR7 := Lib.hid (HR6.out.ext hx7)
  clear hx7 HK2 HR6
  go_upto_region 5 with fail
  obtain ⟨W8, hW8⟩ : ∃ W8, w7.alloc (.cells #[.slice none 0 0, .slice none 0 0, .slice none 0 0, .slice none 0 0, .slice none 0 0] 28) = W8 := ⟨_, rfl⟩
  have hx8 : Ex w7 W8 := by rw [← hW8]; exact (Keeps.refl _ _).alloc _
  rw [hW8]
  have HX8 := Lib.hid (HX7.out.trans hx8); have HR8 := Lib.hid (HR7.out.ext hx8)
  clear hx8 hW8 HR7
  have e1 : sixS.toList = [68, 69, 83, 67, 32, 45, 49, 32, 48, 32, 49, 32, 52, 32, 45, 49, 32, 55, 32, 45, 49, 32, 51, 32, 49, 32, 48, 32, 48, 10, 84, 69, 88, 84, 32, 34, 54, 34, 10, 110, 111, 110, 101, 10, 112, 97, 116, 116, 101, 114, 110, 32, 48, 10, 110, 101, 119, 32, 48, 10, 114, 111, 111, 116, 10, 105, 110, 116, 32, 48, 10, 112, 111, 112, 10, 114, 101, 116, 117, 114, 110, 10, 105, 110, 116, 32, 48, 10, 112, 117, 116, 10, 114, 101, 116, 117, 114, 110, 10] := by decide +kernel
  obtain ⟨W9, hW9⟩ : ∃ W9, W8.alloc (.cells #[.int .i64 0, .int .i64 4, .int .i64 7] 3) = W9 := ⟨_, rfl⟩
  obtain ⟨b9, hb9⟩ : ∃ b, W8.heap.size = b := ⟨_, rfl⟩
  have hx9 : Ex W8 W9 := by rw [← hW9]; exact (Keeps.refl _ _).alloc _
  have hr9 : RdL encI W9 (.slice (some ⟨b9, 0, none⟩) 3 3) [0, 4, 7] := by
    rw [← hW9, ← hb9]; exact Blk.rdI (l := [0, 4, 7]) (Blk.new W8 _ _)
  have HI := Lib.hid (Ints_any (HR8.out.ext hx9) hr9 (by decide) (by decide))
  have HX9 := Lib.hid (HX8.out.trans hx9); have HW9 := Lib.hid hW9; have Hb9 := Lib.hid hb9
  clear hx9 hr9 hW9 hb9
  go_wp2_with fail
  rw [HW9.out, Hb9.out]
  refine HI.out.mono ?_
  rintro e w10 ⟨rfl, hx10⟩
  have HX10 := Lib.hid (HX9.out.trans hx10)
  clear hx10 HI HR8 e1
  go_wp2_with (go_at_call 45; refine Six_any.mono ?_)
  rintro e w11 ⟨rfl, hs11, hx11⟩
  generalize w10.heap.size = m at hs11 ⊢
  obtain ⟨W12, hW12⟩ : ∃ W12, w11.alloc (.cells #[ints (m + 5) 1, .slice none 0 0, ints (m + 6) 1, .slice none 0 0, ints (m + 4) 10] 28) = W12 := ⟨_, rfl⟩
  obtain ⟨b12, hb12⟩ : ∃ b, w11.heap.size = b := ⟨_, rfl⟩
  have hx12 : Ex w11 W12 := by rw [← hW12]; exact (Keeps.refl _ _).alloc _
  have hB12 : Blk W12 b12 #[ints (m + 5) 1, .slice none 0 0, ints (m + 6) 1, .slice none 0 0, ints (m + 4) 10] 28 := by rw [← hW12, ← hb12]; exact Blk.new w11 _ _
  have hs12 : W12.heap.size = b12 + 1 := by rw [← hW12, World.size_alloc, hb12]
  obtain ⟨W13, hW13⟩ : ∃ W13, W12.alloc (.cells #[.string ⟨#[48, 54]⟩] 9) = W13 := ⟨_, rfl⟩
  have hx13 : Ex W12 W13 := by rw [← hW13]; exact (Keeps.refl _ _).alloc _
  have hB13 : Blk W13 (b12 + 1) #[.string ⟨#[48, 54]⟩] 9 := by rw [← hW13, ← hs12]; exact Blk.new W12 _ _
  have hB12b := hx13.blk hB12 id
  obtain ⟨W14, hW14⟩ : ∃ W14, W13.setCell ⟨b12, 2, none⟩ (ints (b12 + 1) 1) = W14 := ⟨_, rfl⟩
  have hB14 : Blk W14 b12 #[ints (m + 5) 1, .slice none 0 0, ints (b12 + 1) 1, .slice none 0 0, ints (m + 4) 10] 28 := by rw [← hW14]; exact hB12b.set 2 _
  have hB14b : Blk W14 (b12 + 1) #[.string ⟨#[48, 54]⟩] 9 := by rw [← hW14]; exact hB13.far (by show b12 + 1 ≠ b12; omega) _
  have hx14 : Ex w11 W14 := by rw [← hW14]; exact (hx12.trans hx13).setCell (.inr (by show w11.heap.size ≤ b12; omega)) _
  have hbad := bad_check (hs11.ext hx14) hB14b
  have c13 : W13.cell? ⟨b12, 2, none⟩ = some (ints (m + 6) 1) := (hB12b.cell 2).trans rfl
  have f13 : W13.frozen? ⟨b12, 2, none⟩ = false := hB12b.frozen _
  have d0 : W14.cell? ⟨b12, 0, none⟩ = some (ints (m + 5) 1) := (hB14.cell 0).trans rfl
  have d1 : W14.cell? ⟨b12, 1, none⟩ = some (.slice none 0 0) := (hB14.cell 1).trans rfl
  have d2 : W14.cell? ⟨b12, 2, none⟩ = some (ints (b12 + 1) 1) := (hB14.cell 2).trans rfl
  have d3 : W14.cell? ⟨b12, 3, none⟩ = some (.slice none 0 0) := (hB14.cell 3).trans rfl
  have d4 : W14.cell? ⟨b12, 4, none⟩ = some (ints (m + 4) 10) := (hB14.cell 4).trans rfl
  unfold ints at hW12 hW14 c13 d0 d2 d4
  unfold codeV ints at hbad
  have HX14 := Lib.hid (HX10.out.trans (hx11.trans hx14)); have HBad := Lib.hid hbad; have HW12 := Lib.hid hW12; have Hb12 := Lib.hid hb12
  clear hs11 hx11 hx12 hB12 hx13 hB13 hB12b hB14 hB14b hx14 hbad hW12 hb12
  unfold sixV codeV ints
  go_upto_region 8 with fail
  rw [HW12.out]
  try rw [Hb12.out]
  go_upto_region 9 with fail
  clear c13 f13 hW13 hs12 hW14
  go_wp2_with fail
  refine HBad.out.mono ?_
  rintro e w15 ⟨rfl, hx15⟩
  have HX15 := Lib.hid (HX14.out.trans hx15)
  clear hx15 HBad d0 d1 d2 d3 d4
  go_wp2_with (go_at_call 45; refine Six_any.mono ?_)
  rintro e w16 ⟨rfl, hs16, hx16⟩
  obtain ⟨m2, hm2⟩ : ∃ m, w15.heap.size = m := ⟨_, rfl⟩
  rw [hm2] at hs16 ⊢
  have HX16b := Lib.hid hx16; have HS16 := Lib.hid hs16; have Hm2 := Lib.hid hm2
  clear hx16 hs16 hm2
  unfold sixV codeV ints
  have hfl := run_field_code
  go_upto_region 11 with fail
  obtain ⟨W17, hW17⟩ : ∃ W17, w16.alloc (.cells #[.int .i64 42, .int .i64 1, .int .i64 0, .int .i64 53, .int .i64 5, .int .i64 0, .int .i64 36, .int .i64 0, .int .i64 0] 82) = W17 := ⟨_, rfl⟩
  obtain ⟨b17, hb17⟩ : ∃ b, w16.heap.size = b := ⟨_, rfl⟩
  have hx17 : Ex w16 W17 := by rw [← hW17]; exact (Keeps.refl _ _).alloc _
  have hB17 : Blk W17 b17 #[.int .i64 42, .int .i64 1, .int .i64 0, .int .i64 53, .int .i64 5, .int .i64 0, .int .i64 36, .int .i64 0, .int .i64 0] 82 := by rw [← hW17, ← hb17]; exact Blk.new w16 _ _
  have hs17 : W17.heap.size = b17 + 1 := by rw [← hW17, World.size_alloc, hb17]
  obtain ⟨W18, hW18⟩ : ∃ W18, W17.alloc (.cells #[.slice (some ⟨m2 + 5, 0, none⟩) 1 1, .slice none 0 0, .slice none 0 0, .slice none 0 0, .slice (some ⟨b17, 0, none⟩) 3 3] 28) = W18 := ⟨_, rfl⟩
  have hx18 : Ex w16 W18 := by rw [← hW18]; exact hx17.alloc _
  have hB18 : Blk W18 (b17 + 1) #[.slice (some ⟨m2 + 5, 0, none⟩) 1 1, .slice none 0 0, .slice none 0 0, .slice none 0 0, .slice (some ⟨b17, 0, none⟩) 3 3] 28 := by rw [← hW18, ← hs17]; exact Blk.new W17 _ _
  have hS18 := HS16.out.ext hx18
  have hI18 : Blk W18 b17 #[.int .i64 42, .int .i64 1, .int .i64 0, .int .i64 53, .int .i64 5, .int .i64 0, .int .i64 36, .int .i64 0, .int .i64 0] 82 := by rw [← hW18]; exact hB17.alloc _
  have hn1 : m2 + 1 ≠ m2 + 5 := by omega
  have hn2 : m2 + 2 ≠ m2 + 5 := by omega
  have hD18 : Blk W18 (m2 + 5) #[.int .i64 (-1), ints (m2 + 1) 1, ints (m2 + 2) 1, .int .i64 0, .int .i64 1, .slice none 0 0, .int .i64 4, .int .i64 (-1), .int .i64 7, .int .i64 (-1), .int .i64 3] 50 := hS18.b5
  have hn3 : b17 ≠ m2 + 5 := hI18.ne hD18 (by decide)
  have hn4 : b17 + 1 ≠ m2 + 5 := hB18.ne hD18 (by decide)
  have hmw : w15.heap.size ≤ m2 + 5 := by rw [Hm2.out]; omega
  obtain ⟨W19, hW19⟩ : ∃ W19, W18.setCell ⟨m2 + 5, 6, none⟩ (.int .i64 (-1)) = W19 := ⟨_, rfl⟩
  have hD19 : Blk W19 (m2 + 5) #[.int .i64 (-1), ints (m2 + 1) 1, ints (m2 + 2) 1, .int .i64 0, .int .i64 1, .slice none 0 0, .int .i64 (-1), .int .i64 (-1), .int .i64 7, .int .i64 (-1), .int .i64 3] 50 := by rw [← hW19]; exact hD18.set 6 _
  obtain ⟨W20, hW20⟩ : ∃ W20, W19.setCell ⟨m2 + 5, 8, none⟩ (.int .i64 2) = W20 := ⟨_, rfl⟩
  have hD20 : Blk W20 (m2 + 5) #[.int .i64 (-1), ints (m2 + 1) 1, ints (m2 + 2) 1, .int .i64 0, .int .i64 1, .slice none 0 0, .int .i64 (-1), .int .i64 (-1), .int .i64 2, .int .i64 (-1), .int .i64 3] 50 := by rw [← hW20]; exact hD19.set 8 _
  have far : ∀ {b : Nat} {cs : Array Value} {t : TypeId}, b ≠ m2 + 5 → Blk W18 b cs t → Blk W19 b cs t ∧ Blk W20 b cs t := by
    intro b cs t hne h
    have h1 : Blk W19 b cs t := by rw [← hW19]; exact h.far hne _
    exact ⟨h1, by rw [← hW20]; exact h1.far hne _⟩
  have hJ := jump_strip (far hn1 hS18.b1).2 (far hn2 hS18.b2).2 hD20 (far hn3 hI18).2
  have hx20 : Ex w15 W20 := by rw [← hW20, ← hW19]; exact ((HX16b.out.trans hx18).setCell (.inr hmw) _).setCell (.inr hmw) _
  have c18 : W18.cell? ⟨b17 + 1, 0, none⟩ = some (.slice (some ⟨m2 + 5, 0, none⟩) 1 1) := (hB18.cell 0).trans rfl
  have c18b : W18.cell? ⟨m2 + 5, 6, none⟩ = some (.int .i64 4) := (hD18.cell 6).trans rfl
  have f18b : W18.frozen? ⟨m2 + 5, 6, none⟩ = false := hD18.frozen _
  have hB19 := (far hn4 hB18).1
  have hB20 := (far hn4 hB18).2
  have c19 : W19.cell? ⟨b17 + 1, 0, none⟩ = some (.slice (some ⟨m2 + 5, 0, none⟩) 1 1) := (hB19.cell 0).trans rfl
  have c19b : W19.cell? ⟨m2 + 5, 8, none⟩ = some (.int .i64 7) := (hD19.cell 8).trans rfl
  have f19b : W19.frozen? ⟨m2 + 5, 8, none⟩ = false := hD19.frozen _
  have d0 : W20.cell? ⟨b17 + 1, 0, none⟩ = some (.slice (some ⟨m2 + 5, 0, none⟩) 1 1) := (hB20.cell 0).trans rfl
  have d1 : W20.cell? ⟨b17 + 1, 1, none⟩ = some (.slice none 0 0) := (hB20.cell 1).trans rfl
  have d2 : W20.cell? ⟨b17 + 1, 2, none⟩ = some (.slice none 0 0) := (hB20.cell 2).trans rfl
  have d3 : W20.cell? ⟨b17 + 1, 3, none⟩ = some (.slice none 0 0) := (hB20.cell 3).trans rfl
  have d4 : W20.cell? ⟨b17 + 1, 4, none⟩ = some (.slice (some ⟨b17, 0, none⟩) 3 3) := (hB20.cell 4).trans rfl
  unfold codeV ints at hJ
  have HJ := Lib.hid hJ; have HX20 := Lib.hid (HX15.out.trans hx20); have Hs17 := Lib.hid hs17; have Hb17 := Lib.hid hb17; have HW17 := Lib.hid hW17; have HW18 := Lib.hid hW18
  clear hx17 hB17 hs17 hx18 hB18 hS18 hI18 hn1 hn2 hn3 hn4 hmw hD18 hD19 hD20 far hJ hx20 hB19 hB20 hb17 hW17 hW18
  rw [HW17.out]
  try rw [Hb17.out]
  rw [HW18.out]
  go_upto_region 13 with fail
  clear c18 c18b f18b c19 c19b f19b hW19 hW20
  go_wp2_with fail
  refine HJ.out.mono ?_
  rintro e w21 ⟨da, dc, la, l0, lc, ta, t0, tc, ra, r0, rc, ia, ic, rfl, z1, z8, hx21⟩
  obtain ⟨W22, hW22⟩ : ∃ W22, w21.alloc (.cells #[.slice (some da) 1 dc, .slice la l0 lc, .slice ta t0 tc, .slice ra r0 rc, .slice (some ia) 2 ic] 28) = W22 := ⟨_, rfl⟩
  obtain ⟨b22, hb22⟩ : ∃ b, w21.heap.size = b := ⟨_, rfl⟩
  have hx22 : Ex w21 W22 := by rw [← hW22]; exact (Keeps.refl _ _).alloc _
  have hB22 : Blk W22 b22 #[.slice (some da) 1 dc, .slice la l0 lc, .slice ta t0 tc, .slice ra r0 rc, .slice (some ia) 2 ic] 28 := by rw [← hW22, ← hb22]; exact Blk.new w21 _ _
  have e0 : W22.cell? ⟨b22, 0, none⟩ = some (.slice (some da) 1 dc) := (hB22.cell 0).trans rfl
  have e4 : W22.cell? ⟨b22, 4, none⟩ = some (.slice (some ia) 2 ic) := (hB22.cell 4).trans rfl
  have z1b := ex_cell hx22 z1
  have z8b := ex_cell hx22 z8
  have HX22 := Lib.hid (HX20.out.trans (hx21.trans hx22)); have HW22 := Lib.hid hW22; have Hb22 := Lib.hid hb22
  clear z1 z8 hx21 hx22 hB22 hW22 hb22 d0 d1 d2 d3 d4 HJ
  go_upto_region 14 with fail
  rw [HW22.out]
  try rw [Hb22.out]
  go_wp2_with fail
  go_ret
  exact ⟨rfl, HX22.out⟩
end Go.Proofs.YtlaepkmnbbgbcaaGreatDoor
/- What the claims about codes share: the listed variables, a world that fits, layout, bulk. -/
namespace Go.Proofs.YtlaepkmnbbgbcaaGreatDoor
open Go.RowKit Go.Instr Go.ChangeShapes Go.WideShapes Go.ChangeAt
set_option linter.unusedVariables false
set_option linter.unusedSimpArgs false

theorem laidOut' : laidOutB Tryz.prog = true := by kernel_rfl
theorem own' : ownKnob Tryz.prog.godebug = none := by kernel_rfl
theorem Below.trodAll' {H : Type} {enc : TypeId × Value → H} {P : Program} (hl : laidOutB P = true) {W W' : World} (hb : Below W.heap.size W W') :
    ∀ {ts : List TypeId} {vs : List Value} {ds : List (DataW H)} {ps : List MemPlace}, (∀ t ∈ ts, P.readableRec t = true ∧ t < P.types.size) → DataW.TrodAll enc P W 0 (fun _ => true) true ts vs ds ps → (∀ x ∈ ps, x.block < W.heap.size) →
      DataW.TrodAll enc P W' 0 (fun b => decide (b < W.heap.size)) true ts vs ds ps
  | [], [], [], ps, _, h, _ => h
  | t :: ts, v :: vs, d :: ds, ps, hr, h, hlt => by
    obtain ⟨p, q, h1, h2, rfl⟩ := h
    exact ⟨p, q, Below.trod hl (hr t (by simp)).1 (hr t (by simp)).2 h1 hb (fun x hx => hlt x (List.mem_append_left _ hx)), Below.trodAll' hl hb (fun t ht => hr t (by simp [ht])) h2 (fun x hx => hlt x (List.mem_append_right _ hx)), rfl⟩
  | [], _ :: _, _, _, _, h, _ => h.elim
  | [], [], _ :: _, _, _, h, _ => h.elim
  | _ :: _, [], _, _, _, h, _ => h.elim
  | _ :: _, _ :: _, [], _, _, h, _ => h.elim
/-- The list of the rows. -/
def laidL : List (String × DataW Unit) := [("math/bits.deBruijn32tab", Rows.laid_math_bits_deBruijn32tab), ("math/bits.deBruijn64tab", Rows.laid_math_bits_deBruijn64tab), ("internal/strconv.uint64pow10", Rows.laid_internal_strconv_uint64pow10), ("unicode/utf8.acceptRanges", Rows.laid_unicode_utf8_acceptRanges), ("strconv.ErrRange", Rows.laid_strconv_ErrRange), ("strconv.ErrSyntax", Rows.laid_strconv_ErrSyntax), ("unicode/utf8.first", Rows.laid_unicode_utf8_first)]
theorem laidL_plain : (laidL.filter fun x => x.2.handleName?.isSome) = [] := by kernel_rfl
theorem laidL_met {w : World} : laidMetH Tryz.prog laidL w ↔ laidMet Tryz.prog laidL w := by
  unfold laidMetH; rw [laidL_plain]
theorem tab_of {W : World} (h : laidMet Tryz.prog laidL W) : Tab W := by
  obtain ⟨g, t, cs, fuel, p, hg, hty, hvar, hd⟩ := Lib.laidMet.reads h (n := "internal/strconv.uint64pow10") (d := Rows.laid_internal_strconv_uint64pow10) (.tail _ (.tail _ (.head _)))
  obtain rfl := Option.some.inj ((show Tryz.prog.globalNamed "internal/strconv.uint64pow10" = some 1 by kernel_rfl).symm.trans hg)
  obtain rfl := Option.some.inj ((show (Tryz.prog.globals[1]?).map (·.type) = some 279 by kernel_rfl).symm.trans hty)
  have hd2 : DataW.trod (fun _ => ()) Tryz.prog W 0 (fun _ => true) false fuel 279 cs.toList = some (Lib.tabData .u64 Lib.pow10Tab, p) := hd
  unfold Tab Lib.TabIs
  rw [hvar, ← Lib.cells_of_tab Tryz.underlying279 Tryz.underlying211 (by kernel_rfl) (by kernel_rfl) hd2]
theorem mx_of {W : World} (h : W.ShapedOpen Tryz.prog) : Mx W :=
  cell_of_shapedOpen_int (g := 0) (t := 3) (zero := #[.int .i64 0]) h (of_decide_eq_true (by kernel_rfl)) (by kernel_rfl) rfl (by kernel_rfl) (by kernel_rfl) Tryz.underlying3
noncomputable def laidW (os : Os) : World := World.laidAll Tryz.prog os laidL
set_option maxRecDepth 100000 in
theorem laidW_met (os : Os) (args : Array Value) : laidMetH Tryz.prog laidL ((laidW os).forCall (fun _ _ => 0) ⟨#[], args, []⟩).memory :=
  laidL_met.2 (laidMet_laidAll _ (by kernel_rfl) (by kernel_rfl))
end Go.Proofs.YtlaepkmnbbgbcaaGreatDoor
