/- Parse of the example. ref.Ints; Six. Six. -/
import Derived.Test.YtlaepkmnbbgbcaaGreatDoorGB14
import Derived.Test.YtlaepkmnbbgbcaaGreatDoorGB12
/- Parse of the example. -/
namespace Go.Proofs.YtlaepkmnbbgbcaaGreatDoor
open Go.RowKit Go.Instr Go.Shelf
set_option linter.unusedVariables false
set_option linter.unusedSimpArgs false
attribute [local go_sem] Oper.semAt_some

/-- The example: a text ahead of a descriptor. -/
def exS : ByteArray := ⟨#[84, 69, 88, 84, 32, 34, 97, 34, 10, 68, 69, 83, 67, 32, 45, 49, 32, 48, 32, 48, 32, 45, 49, 32, 45, 49, 32, 45, 49, 32, 45, 49, 32, 48, 32, 49, 32, 48, 32, 48, 10]⟩
def exL0 : ByteArray := ⟨#[84, 69, 88, 84, 32, 34, 97, 34]⟩
def exR0 : ByteArray := ⟨#[68, 69, 83, 67, 32, 45, 49, 32, 48, 32, 48, 32, 45, 49, 32, 45, 49, 32, 45, 49, 32, 45, 49, 32, 48, 32, 49, 32, 48, 32, 48, 10]⟩
def exL1 : ByteArray := ⟨#[68, 69, 83, 67, 32, 45, 49, 32, 48, 32, 48, 32, 45, 49, 32, 45, 49, 32, 45, 49, 32, 45, 49, 32, 48, 32, 49, 32, 48, 32, 48]⟩
def exA1 : ByteArray := ⟨#[45, 49, 32, 48, 32, 48, 32, 45, 49, 32, 45, 49, 32, 45, 49, 32, 45, 49, 32, 48, 32, 49, 32, 48, 32, 48]⟩
theorem cut0 : Lib.cut exS.data.toList [10] = (exL0.data.toList, exR0.data.toList, true) := by decide +kernel
theorem cut1 : Lib.cut exR0.data.toList [10] = (exL1.data.toList, [], true) := by decide +kernel
theorem cutL0 : Lib.cut exL0.data.toList [32] = ([84, 69, 88, 84], [34, 97, 34], true) := by decide +kernel
theorem cutL1 : Lib.cut exL1.data.toList [32] = ([68, 69, 83, 67], exA1.data.toList, true) := by decide +kernel
def exW : List ByteArray := [⟨#[45, 49]⟩, ⟨#[48]⟩, ⟨#[48]⟩, ⟨#[45, 49]⟩, ⟨#[45, 49]⟩, ⟨#[45, 49]⟩, ⟨#[45, 49]⟩, ⟨#[48]⟩, ⟨#[49]⟩, ⟨#[48]⟩, ⟨#[48]⟩]
def exN : List Int := [-1, 0, 0, -1, -1, -1, -1, 0, 1, 0, 0]
theorem exCount : Lib.countB exL1 ⟨#[32]⟩ = exW.length := by decide +kernel
theorem exSplit : Lib.splitB ⟨#[32]⟩ 0 (Lib.countB exL1 ⟨#[32]⟩) exL1 = ⟨#[68, 69, 83, 67]⟩ :: exW := by rw [exCount]; decide +kernel
theorem num_m1 : Num ⟨#[45, 49]⟩ (-1) := ⟨by decide +kernel, by decide +kernel, by decide, by decide +kernel, by unfold I64; omega⟩
theorem num_0 : Num ⟨#[48]⟩ 0 := ⟨by decide +kernel, by decide +kernel, by decide, by decide +kernel, by unfold I64; omega⟩
theorem num_1 : Num ⟨#[49]⟩ 1 := ⟨by decide +kernel, by decide +kernel, by decide, by decide +kernel, by unfold I64; omega⟩
theorem exNums : ∀ (k : Nat) (s : ByteArray) (n : Int), exW[k]? = some s → exN[k]? = some n → Num s n := by
  intro k s n h1 h2
  rcases k with _ | _ | _ | _ | _ | _ | _ | _ | _ | _ | _ | k <;> simp [exW, exN] at h1 h2 <;> subst h1 <;> subst h2 <;> first | exact num_m1 | exact num_0 | exact num_1
set_option maxRecDepth 100000 in
set_option maxHeartbeats 8000000 in
theorem parse_ex {w : World} (hm : Mx w) (ht : Tab w) : Calls Tryz.prog 19 #[.string exS] w fun e w' => e = .returned (.tuple #[.agg #[.slice none 0 0, .slice none 0 0, .slice none 0 0, .slice none 0 0, .slice none 0 0], .int .i64 7, .int .i64 1]) ∧ Ex w w' := by
  obtain ⟨W1, hW1⟩ : ∃ W1, w.alloc (.cells #[.slice none 0 0, .slice none 0 0, .slice none 0 0, .slice none 0 0, .slice none 0 0] 28) = W1 := ⟨_, rfl⟩
  obtain ⟨bc, hbc⟩ : ∃ bc, w.heap.size = bc := ⟨_, rfl⟩
  have hX1 : Ex w W1 := by rw [← hW1]; exact (Keeps.refl _ w).alloc _
  have hC1 : Blk W1 bc #[.slice none 0 0, .slice none 0 0, .slice none 0 0, .slice none 0 0, .slice none 0 0] 28 := by rw [← hW1, ← hbc]; exact Blk.new w _ _
  obtain ⟨W2, hW2⟩ : ∃ W2, W1.alloc (.map #[] 0) = W2 := ⟨_, rfl⟩
  obtain ⟨mo, hmo⟩ : ∃ mo, W1.heap.size = mo := ⟨_, rfl⟩
  have hX2 : Ex W1 W2 := by rw [← hW2]; exact (Keeps.refl _ W1).alloc _
  have hM2 : W2.heap[mo]? = some (.map #[] 0) := by rw [← hW2, ← hmo]; exact World.alloc_heap_new _ _
  have hmm := run_makeMap (P := Tryz.prog) 110 W1
  rw [hW2] at hmm
  have hwm : w.heap.size ≤ mo := by rw [← hmo]; exact hX1.size
  have hbm : bc < mo := by rw [← hmo, ← hbc, ← hW1, World.size_alloc]; omega
  have Hm := Lib.hid hm; have Ht := Lib.hid ht; have HX1 := Lib.hid hX1; have HC1 := Lib.hid hC1; have HX2 := Lib.hid hX2; have HM2 := Lib.hid hM2; have HW1 := Lib.hid hW1; have HW2 := Lib.hid hW2; have Hbc := Lib.hid hbc; have Hmo := Lib.hid hmo
  clear hm ht hX1 hC1 hX2 hM2 hW2 hbc hmo
  go_enter Tryz.func19, Tryz.ntmps19
  go_upto_region 1 with fail
  rw [Hbc.out]
  clear hW1
  go_wp2_with (go_at_call 57; refine (operations_any _).mono ?_)
  rintro e W3 ⟨ma, rfl, hrd, hle, hx3⟩
  obtain ⟨W4, hW4⟩ : ∃ W4, W3.alloc (.cells #[.slice none 0 0, .slice none 0 0, .slice none 0 0, .slice none 0 0, .slice none 0 0, .int .i64 0, .map (some mo), .map (some ma)] 114) = W4 := ⟨_, rfl⟩
  obtain ⟨br, hbr⟩ : ∃ br, W3.heap.size = br := ⟨_, rfl⟩
  have hX4 : Ex W3 W4 := by rw [← hW4]; exact (Keeps.refl _ W3).alloc _
  have hR4 : RdrBlk W4 br (.slice none 0 0) (.slice none 0 0) (.slice none 0 0) (.slice none 0 0) (.slice none 0 0) (.int .i64 0) (.map (some mo)) (.map (some ma)) := by rw [← hW4, ← hbr]; exact Blk.new W3 _ _
  obtain ⟨es, ck, hes, hrng⟩ := Rng.begin (hrd.ext hX4)
  have hrr := run_range_map (P := Tryz.prog) W4 111 3 118 ma es ck Tryz.underlying111 hes
  obtain ⟨r, hr⟩ : ∃ r, W4.heap.size = r := ⟨_, rfl⟩
  obtain ⟨W5, hW5⟩ : ∃ W5, W4.alloc (.mapIter (some ma) ck #[] ck) = W5 := ⟨_, rfl⟩
  rw [hr, hW5] at hrng
  rw [hr, hW5] at hrr
  have hX5 : Ex W4 W5 := by rw [← hW5]; exact (Keeps.refl _ W4).alloc _
  have x7 : W4.cell? ⟨br, 7, none⟩ = some (.map (some ma)) := (hR4.cell 7).trans rfl
  have hmb : mo < br := by rw [← hbr]; have := HM2.out; have := (Array.getElem?_eq_some_iff.1 this).1; have := hx3.size; omega
  have hbrr : br < r := by rw [← hr]; exact hR4.lt
  have HRd := Lib.hid hrd; have HX3 := Lib.hid hx3; have HX4 := Lib.hid hX4; have HR4 := Lib.hid hR4; have HRng := Lib.hid hrng; have HX5 := Lib.hid hX5; have HW4 := Lib.hid hW4; have Hbr := Lib.hid hbr; have Hrr := Lib.hid hr
  have HLe := Lib.hid hle
  clear hmm hrd hle hx3 hX4 hR4 hes hrng hX5 hW4 hbr hr hW5
  go_upto_region 2 with fail
  rw [Hmo.out, HW4.out]
  try rw [Hbr.out]
  go_wp2_with fail
  have hmoma : mo < ma := by have := (Array.getElem?_eq_some_iff.1 HM2.out).1; have := HLe.out; omega
  have hM5 : W5.heap[mo]? = some (.map #[] 0) := ((HX3.out.trans HX4.out).trans HX5.out).obj (by exact HM2.out) id
  have HM5 := Lib.hid hM5
  clear hM5 hrr x7
  go_loopw [24] (fun s wr => ∃ (seen : Array Nat) (es' : Array MapEntry) (ck' : Nat), Hid (Rng wr ma r opT es ck seen) ∧ Hid (wr.heap[mo]? = some (.map es' ck') ∧ StrEs es' ck' ∧ NameT es es'.toList seen) ∧ Hid (Keeps (fun k => k = r ∨ k = mo) W5 wr)) (fun s wr => wr.rangeLeft ma r)
  case atStart => exact ⟨#[], #[], 0, HRng, Lib.hid ⟨HM5.out, StrEs.empty 0, NameT.empty es⟩, Lib.hid (Keeps.refl _ _)⟩
  case round =>
    obtain ⟨seen, es', ck', HRr, HMr, HKr⟩ := hrel
    go_wp2_with (at_next; refine wpList_next_op rfl _ rfl rfl HRr.out ?done ?more)
    case more =>
      intro e q va vb w1 he _ heo hev hva hvb hk1 hs1 hr1 hlt hen
      have hmo : w1.heap[mo]? = some (.map es' ck') := hk1.obj HMr.out.1 (by omega)
      have hsa : ∀ (a : Addr) (md : Mode) (W : World), (Go.store a va md).run Tryz.prog W = stored Tryz.prog W a va md := by
        intro a md W
        rcases hva.form with rfl | ⟨f, lb, rfl⟩
        · exact run_store_nilFunc _ _ _ _
        · exact run_store_func _ _ _ _ _ _ _
      have hsb : ∀ (a : Addr) (md : Mode) (W : World), (Go.store a vb md).run Tryz.prog W = stored Tryz.prog W a vb md := by
        intro a md W
        rcases hvb.form with rfl | ⟨f, lb, rfl⟩
        · exact run_store_nilFunc _ _ _ _
        · exact run_store_func _ _ _ _ _ _ _
      obtain ⟨W6, hW6⟩ : ∃ W6, w1.alloc (.cells #[.string q.name, va, vb] 118) = W6 := ⟨_, rfl⟩
      obtain ⟨b7, hb7⟩ : ∃ b7, w1.heap.size = b7 := ⟨_, rfl⟩
      have hX6 : Ex w1 W6 := by rw [← hW6]; exact (Keeps.refl _ w1).alloc _
      have hB6 : Blk W6 b7 #[.string q.name, va, vb] 118 := by rw [← hW6, ← hb7]; exact Blk.new w1 _ _
      obtain ⟨W7, hW7⟩ : ∃ W7, W6.drew = W7 := ⟨_, rfl⟩
      have hX7 : Ex w1 W7 := by rw [← hW7]; exact hX6.drew
      have hB7 : Blk W7 b7 #[.string q.name, va, vb] 118 := by rw [← hW7]; exact hB6.drew
      have hk7 : Keeps (fun k => k = r ∨ k = mo) W5 W7 := Keeps.trans (Keeps.trans HKr.out (hk1.mono fun _ _ h => .inl h)) (hX7.mono fun _ _ h => h.elim)
      have hR7 : RdrBlk W7 br (.slice none 0 0) (.slice none 0 0) (.slice none 0 0) (.slice none 0 0) (.slice none 0 0) (.int .i64 0) (.map (some mo)) (.map (some ma)) := hk7.blk (HX5.out.blk HR4.out id) (by omega)
      obtain ⟨es2, ck2, hrun, hok2, hget, -, -⟩ := run_mapUpdate_str (P := Tryz.prog) Tryz.underlying110 Tryz.underlying9 mo HMr.out.2.1 q.name (.int .i64 q.key)
      have hmo7 : W7.heap[mo]? = some (.map es' ck') := hX7.obj hmo id
      have hrun7 := hrun W7 hmo7
      have HS : Hid (W7.cell? ⟨br, 6, none⟩ = some (.map (some mo)) ∧ W7.cell? ⟨b7, 0, none⟩ = some (.string q.name)) := Lib.hid ⟨(hR7.cell 6).trans rfl, (hB7.cell 0).trans rfl⟩
      have hltm : mo < W7.heap.size := (Array.getElem?_eq_some_iff.1 hmo7).1
      have hk8 : Keeps (fun k => k = r ∨ k = mo) W5 (W7.putObj mo (.map es2 ck2)) := hk7.putObj (.inl (.inr rfl)) _
      have hmo8 : (W7.putObj mo (.map es2 ck2)).heap[mo]? = some (.map es2 ck2) := World.putObj_heap_same hltm
      have hr7 : Rng W7 ma r opT es ck (seen.push e.born) := hr1.keep hX7 id id (fun _ _ _ _ => id)
      have hr8 : Rng (W7.putObj mo (.map es2 ck2)) ma r opT es ck (seen.push e.born) := hr7.keep (S := fun k => k = mo) ((Keeps.refl (fun k => k = mo) W7).putObj (.inl rfl) _) (by show ¬ ma = mo; omega) (by show ¬ r = mo; omega) (by
        rintro k o h1 h2 rfl
        rw [hmo7] at h1; injection h1 with h1; subst h1; cases h2)
      have hnt := NameT.step hr1.ok HMr.out.2.2 heo.1 he heo.2.1 hget
      have hleft : (W7.putObj mo (.map es2 ck2)).rangeLeft ma r < wr.rangeLeft ma r := by rw [hr8.left, HRr.out.left]; exact hlt
      have HF := Lib.hid (And.intro hr8 (And.intro (And.intro hmo8 (And.intro hok2 hnt)) (And.intro hk8 hleft)))
      have HRun := Lib.hid hrun7; have HW7 := Lib.hid hW7
      clear hmo hX6 hB6 hX7 hB7 hk7 hR7 hrun hok2 hget hmo7 hrun7 hltm hk8 hmo8 hr7 hr8 hnt hleft hW7 hva hvb hev heo hk1 hs1 hr1 hlt he
      go_wp2_with fail
      clear hW6 hb7 hsa hsb hen
      refine region_S_plain (n := 9) (fun V => V.cell? ⟨br, 6, none⟩ = some (.map (some mo)) ∧ V.cell? ⟨b7, 0, none⟩ = some (.string q.name)) 7 (by kernel_rfl) ?_
      rw [HW7.out]
      refine anyS_quiet (a2 := ?a0) 0 rfl rfl rfl (by kernel_rfl) (by kernel_rfl) (by kernel_rfl) (by kernel_rfl) (by kernel_rfl) (by kernel_rfl) (fun _ _ _ _ h => h) HS.out ?h0 ?k0
      case h0 => intro W hW K hK; obtain ⟨q0, q1⟩ := hW; go_simp; exact hK
      refine anyS_quiet (a2 := ?a1) 1 rfl rfl rfl (by kernel_rfl) (by kernel_rfl) (by kernel_rfl) (by kernel_rfl) (by kernel_rfl) (by kernel_rfl) (fun _ _ _ _ h => h) HS.out ?h1 ?k1
      case h1 => intro W hW K hK; obtain ⟨q0, q1⟩ := hW; go_simp; exact hK
      refine anyS_quiet (a2 := ?a2) 2 rfl rfl rfl (by kernel_rfl) (by kernel_rfl) (by kernel_rfl) (by kernel_rfl) (by kernel_rfl) (by kernel_rfl) (fun _ _ _ _ h => h) HS.out ?h2 ?k2
      case h2 => intro W hW K hK; obtain ⟨q0, q1⟩ := hW; go_simp; exact hK
      refine anyS_quiet (a2 := ?a3) 3 rfl rfl rfl (by kernel_rfl) (by kernel_rfl) (by kernel_rfl) (by kernel_rfl) (by kernel_rfl) (by kernel_rfl) (fun _ _ _ _ h => h) HS.out ?h3 ?k3
      case h3 => intro W hW K hK; obtain ⟨q0, q1⟩ := hW; go_simp; exact hK
      refine anyS_quiet (a2 := ?a4) 4 rfl rfl rfl (by kernel_rfl) (by kernel_rfl) (by kernel_rfl) (by kernel_rfl) (by kernel_rfl) (by kernel_rfl) (fun _ _ _ _ h => h) HS.out ?h4 ?k4
      case h4 => intro W hW K hK; obtain ⟨q0, q1⟩ := hW; go_simp; exact hK
      refine anyS_quiet (a2 := ?a5) 5 rfl rfl rfl (by kernel_rfl) (by kernel_rfl) (by kernel_rfl) (by kernel_rfl) (by kernel_rfl) (by kernel_rfl) (fun _ _ _ _ h => h) HS.out ?h5 ?k5
      case h5 => intro W hW K hK; obtain ⟨q0, q1⟩ := hW; go_simp; exact hK
      refine anyS_quiet (a2 := ?a6) 6 rfl rfl rfl (by kernel_rfl) (by kernel_rfl) (by kernel_rfl) (by kernel_rfl) (by kernel_rfl) (by kernel_rfl) (fun _ _ _ _ h => h) HS.out ?h6 ?k6
      case h6 => intro W hW K hK; obtain ⟨q0, q1⟩ := hW; go_simp; exact hK
      refine anyS_only 7 rfl (by kernel_rfl) ?_
      have hrun7 := HRun.out
      gi_wp2
      refine anyS_done (by kernel_rfl) ?_ _
      go_wp2_with fail
      go_roundw
      case rel => exact ⟨_, _, _, Lib.hid HF.out.1, Lib.hid HF.out.2.1, Lib.hid HF.out.2.2.1⟩
      case measure => exact HF.out.2.2.2
    case done =>
      intro _
      have hbr5 := HX5.out.blk HR4.out id
      have hRr : RdrBlk wr br (.slice none 0 0) (.slice none 0 0) (.slice none 0 0) (.slice none 0 0) (.slice none 0 0) (.int .i64 0) (.map (some mo)) (.map (some ma)) := HKr.out.blk hbr5 (by omega)
      have hX25 : Ex w W5 := HX1.out.trans (HX2.out.trans (HX3.out.trans (HX4.out.trans HX5.out)))
      have hXr : Ex w wr := hX25.trans' HKr.out (fun i hi e => by omega)
      have hCr : Blk wr bc #[.slice none 0 0, .slice none 0 0, .slice none 0 0, .slice none 0 0, .slice none 0 0] 28 := HKr.out.blk (HX5.out.blk (HX4.out.blk (HX3.out.blk (HX2.out.blk HC1.out id) id) id) id) (by omega)
      have HRr2 := Lib.hid hRr; have HXr := Lib.hid hXr; have HCr := Lib.hid hCr
      have hwbr : w.heap.size ≤ br := by omega
      have hbcr : bc < br := by omega
      have hwbc : w.heap.size ≤ bc := by have := Hbc.out; omega
      clear hbr5 hRr hX25 hXr hCr HRr HMr HKr HM5 HX5 HRng HX4 HX3 HRd HR4 HW4 HX2 HM2 HX1 HC1 HW1 HW2 hmoma
      have e1 : exS.toList.isEmpty = false := by decide +kernel
      have e2 : exR0.toList.isEmpty = false := by decide +kernel
      go_wp2_with fail
      go_loopw [0, 8] (fun u s V => Hid (Ex w V) ∧ Hid (Blk V bc #[.slice none 0 0, .slice none 0 0, .slice none 0 0, .slice none 0 0, .slice none 0 0] 28) ∧
        ((u = .string exS ∧ s = .int .i64 0 ∧ Hid (RdrBlk V br (.slice none 0 0) (.slice none 0 0) (.slice none 0 0) (.slice none 0 0) (.slice none 0 0) (.int .i64 0) (.map (some mo)) (.map (some ma)))) ∨
         (u = .string exR0 ∧ s = .int .i64 1 ∧ ∃ tv, Hid (RdrBlk V br (.slice none 0 0) (.slice none 0 0) tv (.slice none 0 0) (.slice none 0 0) (.int .i64 2) (.map (some mo)) (.map (some ma)))))) (fun u s V => 2 - (intOf s).toNat)
      case atStart => exact ⟨HXr, HCr, .inl ⟨rfl, rfl, HRr2⟩⟩
      case round =>
        obtain ⟨HXv, HCv, h⟩ := hrel
        rcases h with ⟨rfl, rfl, HRv⟩ | ⟨rfl, rfl, tv, HRv⟩
        · have hcut := cut_any (Hm.out.ext HXv.out) (s := exS) (sep := ⟨#[10]⟩) (a := exL0) (b := exR0) (f := true) (by decide) cut0
          have HCut := Lib.hid hcut
          clear hcut
          go_wp2_with (go_at_call 58; refine HCut.out.mono ?_)
          rintro e w1 ⟨rfl, hx1⟩
          have hxw := HXv.out.trans hx1
          have hread := read_ok (hx1.blk HRv.out id) (s := exL0) (g' := 2) (R := fun W => ∃ tv, RdrBlk W br (.slice none 0 0) (.slice none 0 0) tv (.slice none 0 0) (.slice none 0 0) (.int .i64 0) (.map (some mo)) (.map (some ma))) (S := fun k => k = br) (fun W hW => by
            refine (textLine_any ((Hm.out.ext hxw).ext hW) (hW.blk (hx1.blk HRv.out id) id) (s := exL0) (rest := ⟨#[34, 97, 34]⟩) (f := true) (by decide) (by decide) (by decide) (by decide) cutL0 (by decide +kernel) (by decide +kernel) (World.ownsRow_nil W W.heap.size _ _) (Nat.le_refl _) (by omega)).mono ?_
            rintro e w' ⟨h1, tv', h2, h3, h4⟩
            exact ⟨h1, h4.mono (fun _ _ h => h.elim id fun h => by cases h), _, _, _, _, _, h2, _, h2⟩) (fun k h => by subst h; exact (hx1.blk HRv.out id).lt) (by omega)
          have HRead := Lib.hid hread; have HX1 := Lib.hid hx1; have HXw := Lib.hid hxw
          clear hread hx1 hxw
          go_wp2_with (go_at_call 59; refine HRead.out.mono ?_)
          rintro e w2 ⟨rfl, W, dv, lv, tv, rv, iv, b, hk1, hr1, ⟨tv', hr1'⟩, hwb, hk2, hr2⟩
          have hsame := hr1.same hr1'
          simp only [Array.mk.injEq, List.cons.injEq, and_true] at hsame
          obtain ⟨rfl, rfl, rfl, rfl, rfl, -⟩ := hsame
          have hx2 : Ex w w2 := (HXw.out.trans' hk1 (fun i hi e => by omega)).trans' hk2 (fun i hi e => by have := HXw.out.size; omega)
          have hc2 : Blk w2 bc #[.slice none 0 0, .slice none 0 0, .slice none 0 0, .slice none 0 0, .slice none 0 0] 28 := by
            have h1 := HX1.out.blk HCv.out id
            exact hk2.blk (hk1.blk h1 (by omega)) (by have := h1.lt; omega)
          have HX2 := Lib.hid hx2; have HC2 := Lib.hid hc2; have HR2 := Lib.hid hr2
          clear hk1 hr1 hr1' hwb hk2 hr2 hx2 hc2
          go_wp2_with fail
          go_roundw
          case rel => exact ⟨HX2, HC2, .inr ⟨rfl, by go_num, _, HR2⟩⟩
          case measure => simp [intOf]
        · have hcut := cut_any (Hm.out.ext HXv.out) (s := exR0) (sep := ⟨#[10]⟩) (a := exL1) (b := ⟨#[]⟩) (f := true) (by decide) cut1
          have HCut := Lib.hid hcut
          clear hcut
          go_wp2_with (go_at_call 58; refine HCut.out.mono ?_)
          rintro e w1 ⟨rfl, hx1⟩
          have hxw := HXv.out.trans hx1
          have hread := read_late (hx1.blk HRv.out id) (s := exL1) (g' := 0) (R := fun W => True) (S := fun k => k = br) (fun W hW => by
            refine (descLine_any ((Hm.out.ext hxw).ext hW) ((Ht.out.ext hxw).ext hW) (hW.blk (hx1.blk HRv.out id) id) (s := exL1) (rest := exA1) (f := true) (ss := exW) (l := exN) (n := 1) (by decide) cutL1 exSplit exCount rfl exNums rfl (by decide) rfl (World.ownsRow_nil W W.heap.size _ _) (Nat.le_refl _) (by omega)).mono ?_
            rintro e w' ⟨h1, dv', h2, h4⟩
            exact ⟨h1, h4.mono (fun _ _ h => h.elim id fun h => by cases h), _, _, _, _, _, h2, trivial⟩) (fun k h => by subst h; exact (hx1.blk HRv.out id).lt) (by omega)
          have HRead := Lib.hid hread; have HX1 := Lib.hid hx1; have HXw := Lib.hid hxw
          clear hread hx1 hxw
          go_wp2_with (go_at_call 59; refine HRead.out.mono ?_)
          rintro e w2 ⟨rfl, b, hwb, hk2⟩
          have hx2 : Ex w w2 := HXw.out.trans' hk2 (fun i hi e => by have := HXw.out.size; omega)
          have hc2 : Blk w2 bc #[.slice none 0 0, .slice none 0 0, .slice none 0 0, .slice none 0 0, .slice none 0 0] 28 := by
            have h1 := HX1.out.blk HCv.out id
            exact hk2.blk h1 (by have := h1.lt; omega)
          have HX2 := Lib.hid hx2; have HC2 := Lib.hid hc2
          clear hwb hk2 hx2 hc2
          have x0 : w2.cell? ⟨bc, 0, none⟩ = some (.slice none 0 0) := (HC2.out.cell 0).trans rfl
          have x1 : w2.cell? ⟨bc, 1, none⟩ = some (.slice none 0 0) := (HC2.out.cell 1).trans rfl
          have x2 : w2.cell? ⟨bc, 2, none⟩ = some (.slice none 0 0) := (HC2.out.cell 2).trans rfl
          have x3 : w2.cell? ⟨bc, 3, none⟩ = some (.slice none 0 0) := (HC2.out.cell 3).trans rfl
          have x4 : w2.cell? ⟨bc, 4, none⟩ = some (.slice none 0 0) := (HC2.out.cell 4).trans rfl
          have y0 : w2.frozen? ⟨bc, 0, none⟩ = false := HC2.out.frozen 0
          have y1 : w2.frozen? ⟨bc, 1, none⟩ = false := HC2.out.frozen 1
          have y2 : w2.frozen? ⟨bc, 2, none⟩ = false := HC2.out.frozen 2
          have y3 : w2.frozen? ⟨bc, 3, none⟩ = false := HC2.out.frozen 3
          have y4 : w2.frozen? ⟨bc, 4, none⟩ = false := HC2.out.frozen 4
          go_wp2_with fail
          clear x0 x1 x2 x3 x4 y0 y1 y2 y3 y4
          have hcF := ((((HC2.out.set 0 (.slice none 0 0)).set 1 (.slice none 0 0)).set 2 (.slice none 0 0)).set 3 (.slice none 0 0)).set 4 (.slice none 0 0)
          have hxF := ((((HX2.out.setCell (p := ⟨bc, 0, none⟩) (.inr hwbc) (.slice none 0 0)).setCell (p := ⟨bc, 1, none⟩) (.inr hwbc) (.slice none 0 0)).setCell (p := ⟨bc, 2, none⟩) (.inr hwbc) (.slice none 0 0)).setCell (p := ⟨bc, 3, none⟩) (.inr hwbc) (.slice none 0 0)).setCell (p := ⟨bc, 4, none⟩) (.inr hwbc) (.slice none 0 0)
          generalize (((((w2.setCell ⟨bc, 0, none⟩ (.slice none 0 0)).setCell ⟨bc, 1, none⟩ (.slice none 0 0)).setCell ⟨bc, 2, none⟩ (.slice none 0 0)).setCell ⟨bc, 3, none⟩ (.slice none 0 0)).setCell ⟨bc, 4, none⟩ (.slice none 0 0)) = WE at hcF hxF ⊢
          have z0 : WE.cell? ⟨bc, 0, none⟩ = some (.slice none 0 0) := (hcF.cell 0).trans rfl
          have z1 : WE.cell? ⟨bc, 1, none⟩ = some (.slice none 0 0) := (hcF.cell 1).trans rfl
          have z2 : WE.cell? ⟨bc, 2, none⟩ = some (.slice none 0 0) := (hcF.cell 2).trans rfl
          have z3 : WE.cell? ⟨bc, 3, none⟩ = some (.slice none 0 0) := (hcF.cell 3).trans rfl
          have z4 : WE.cell? ⟨bc, 4, none⟩ = some (.slice none 0 0) := (hcF.cell 4).trans rfl
          have HXF := Lib.hid hxF
          clear hcF hxF
          refine bodyPost_ret (v := .tuple #[.agg #[.slice none 0 0, .slice none 0 0, .slice none 0 0, .slice none 0 0, .slice none 0 0], .int .i64 7, .int .i64 1]) ?_ rfl ⟨rfl, HXF.out⟩
          simp [results, Tryz.results19, go_sem, z0, z1, z2, z3, z4]
end Go.Proofs.YtlaepkmnbbgbcaaGreatDoor
/- ref.Ints; Six. -/
namespace Go.Proofs.YtlaepkmnbbgbcaaGreatDoor
open Go.RowKit Go.Instr Go.Shelf
set_option linter.unusedVariables false
set_option linter.unusedSimpArgs false
attribute [local go_sem] Oper.semAt_some

theorem rdI_at {w : World} {ad : Addr} {n cp : Nat} {l : List Int} (h : RdL encI w (.slice (some ad) n cp) l) (hn : l.length = n) {k : Nat} (hk : k < n) : w.cell? (ad.add k) = some (.int .i64 (l.getD k 0)) := h.int_at (by rw [hn]; exact hk)
set_option maxRecDepth 100000 in
set_option maxHeartbeats 2000000 in
theorem Ints_any {w : World} {va vb : Value} {a b : List Int} (ha : RdL encI w va a) (hb : RdL encI w vb b) (hla : a.length ≤ 1000000000) (hlb : b.length ≤ 1000000000) :
    Calls Tryz.prog 23 #[va, vb] w fun e w' => e = .returned (.bool (decide (a = b))) ∧ Ex w w' := by
  obtain ⟨aa, ac, rfl, -, ha1, -⟩ := id ha
  obtain ⟨ba, bc, rfl, -, hb1, -⟩ := id hb
  have HX0 : Hid (Ex w w) := Lib.hid (Keeps.refl _ w)
  have HA := Lib.hid ha; have HB := Lib.hid hb; have HA1 := Lib.hid ha1; have HB1 := Lib.hid hb1
  clear ha hb ha1 hb1
  by_cases hl : a.length = b.length
  case neg =>
    have hne : decide (a = b) = false := by rw [decide_eq_false_iff_not]; rintro rfl; exact hl rfl
    rw [hne]
    have hbq : ((a.length : Int) == b.length) = false := by rw [beq_eq_false_iff_ne]; omega
    clear hne
    go_enter Tryz.func23, Tryz.ntmps23
    go_wp2_with fail
    go_ret
    exact ⟨rfl, HX0.out⟩
  case pos =>
    obtain ⟨n, hn⟩ : ∃ n, b.length = n := ⟨_, rfl⟩
    rw [hn] at hl
    rw [hl] at HA hla ⊢
    rw [hn] at HB hlb ⊢
    have Hl := Lib.hid hl; have Hn := Lib.hid hn
    clear hl hn
    have hbq : ((n : Int) == n) = true := by rw [beq_iff_eq]
    generalize hM : (fun (e : Ending) (w' : World) => e = .returned (.bool (decide (a = b))) ∧ Ex w w') = M
    have HM := Lib.hid hM
    clear hM
    go_enter Tryz.func23, Tryz.ntmps23
    go_wp2_with fail
    go_loopw [5] (fun s wr => ∃ k : Nat, k ≤ n ∧ s = .int .i64 k ∧ Hid (Ex w wr) ∧ Hid (a.take k = b.take k)) (fun s wr => n - (intOf s).toNat)
    case atStart => exact ⟨0, Nat.zero_le _, rfl, HX0, Lib.hid rfl⟩
    case round =>
      obtain ⟨k, hk, rfl, HX, HE⟩ := hrel
      by_cases hlt : k < n
      case pos =>
        obtain ⟨ad, rfl⟩ : ∃ ad, aa = some ad := by
          cases aa with
          | none => have := HA1.out rfl; subst this; have := Hl.out; simp at this; omega
          | some ad => exact ⟨ad, rfl⟩
        obtain ⟨bd, rfl⟩ : ∃ bd, ba = some bd := by
          cases ba with
          | none => have := HB1.out rfl; subst this; have := Hn.out; simp at this; omega
          | some bd => exact ⟨bd, rfl⟩
        have za := rdI_at (HA.out.ext HX.out) Hl.out hlt
        have zb := rdI_at (HB.out.ext HX.out) Hn.out hlt
        have hga : a[k]? = some (a.getD k 0) := by rw [List.getD_eq_getElem?_getD, List.getElem?_eq_getElem (by rw [Hl.out]; exact hlt)]; rfl
        have hgb : b[k]? = some (b.getD k 0) := by rw [List.getD_eq_getElem?_getD, List.getElem?_eq_getElem (by rw [Hn.out]; exact hlt)]; rfl
        have HGa := Lib.hid hga; have HGb := Lib.hid hgb
        clear hga hgb
        generalize a.getD k 0 = x at za HGa
        generalize b.getD k 0 = y at zb HGb
        have HS : Hid (wr.drew.cell? (ad.add k) = some (.int .i64 x) ∧ wr.drew.cell? (bd.add k) = some (.int .i64 y)) := Lib.hid ⟨za, zb⟩
        have hlk : ((k : Int) < n) := by omega
        have h0k : (0 : Int) ≤ k := by omega
        have HX2 : Hid (Ex w wr.drew) := Lib.hid HX.out.drew
        go_upto_region 6 with fail
        clear za zb
        refine region_S_plain (n := 9) (fun V => V.cell? (ad.add k) = some (.int .i64 x) ∧ V.cell? (bd.add k) = some (.int .i64 y)) 100 (by kernel_rfl) ?_
        generalize wr.drew = wr2 at HS HX2
        refine anyS_quiet (a2 := ?a0) 0 rfl rfl rfl (by kernel_rfl) (by kernel_rfl) (by kernel_rfl) (by kernel_rfl) (by kernel_rfl) (by kernel_rfl) (fun _ _ _ _ h => h) HS.out ?h0 ?k0
        case h0 => intro W hW K hK; obtain ⟨q0, q1⟩ := hW; go_simp; exact hK
        refine anyS_quiet (a2 := ?a1) 1 rfl rfl rfl (by kernel_rfl) (by kernel_rfl) (by kernel_rfl) (by kernel_rfl) (by kernel_rfl) (by kernel_rfl) (fun _ _ _ _ h => h) HS.out ?h1 ?k1
        case h1 => intro W hW K hK; obtain ⟨q0, q1⟩ := hW; go_simp; exact hK
        refine anyS_quiet (a2 := ?a2) 2 rfl rfl rfl (by kernel_rfl) (by kernel_rfl) (by kernel_rfl) (by kernel_rfl) (by kernel_rfl) (by kernel_rfl) (fun _ _ _ _ h => h) HS.out ?h2 ?k2
        case h2 => intro W hW K hK; obtain ⟨q0, q1⟩ := hW; go_simp; exact hK
        refine anyS_quiet (a2 := ?a3) 3 rfl rfl rfl (by kernel_rfl) (by kernel_rfl) (by kernel_rfl) (by kernel_rfl) (by kernel_rfl) (by kernel_rfl) (fun _ _ _ _ h => h) HS.out ?h3 ?k3
        case h3 => intro W hW K hK; obtain ⟨q0, q1⟩ := hW; go_simp; exact hK
        refine anyS_quiet (a2 := ?a4) 4 rfl rfl rfl (by kernel_rfl) (by kernel_rfl) (by kernel_rfl) (by kernel_rfl) (by kernel_rfl) (by kernel_rfl) (fun _ _ _ _ h => h) HS.out ?h4 ?k4
        case h4 => intro W hW K hK; obtain ⟨q0, q1⟩ := hW; go_simp; exact hK
        refine anyS_quiet (a2 := ?a5) 5 rfl rfl rfl (by kernel_rfl) (by kernel_rfl) (by kernel_rfl) (by kernel_rfl) (by kernel_rfl) (by kernel_rfl) (fun _ _ _ _ h => h) HS.out ?h5 ?k5
        case h5 => intro W hW K hK; obtain ⟨q0, q1⟩ := hW; go_simp; exact hK
        refine anyS_quiet (a2 := ?a6) 6 rfl rfl rfl (by kernel_rfl) (by kernel_rfl) (by kernel_rfl) (by kernel_rfl) (by kernel_rfl) (by kernel_rfl) (fun _ _ _ _ h => h) HS.out ?h6 ?k6
        case h6 => intro W hW K hK; obtain ⟨q0, q1⟩ := hW; go_simp; exact hK
        refine anyS_quiet (a2 := ?a7) 7 rfl rfl rfl (by kernel_rfl) (by kernel_rfl) (by kernel_rfl) (by kernel_rfl) (by kernel_rfl) (by kernel_rfl) (fun _ _ _ _ h => h) HS.out ?h7 ?k7
        case h7 => intro W hW K hK; obtain ⟨q0, q1⟩ := hW; go_simp; exact hK
        refine anyS_quiet (a2 := ?a8) 8 rfl rfl rfl (by kernel_rfl) (by kernel_rfl) (by kernel_rfl) (by kernel_rfl) (by kernel_rfl) (by kernel_rfl) (fun _ _ _ _ h => h) HS.out ?h8 ?k8
        case h8 => intro W hW K hK; obtain ⟨q0, q1⟩ := hW; go_simp; exact hK
        refine anyS_done (by kernel_rfl) ?_ _
        by_cases hxy : x = y
        · have hq : (x == y) = true := by rw [beq_iff_eq]; exact hxy
          have HE2 : Hid (a.take (k + 1) = b.take (k + 1)) := Lib.hid (by rw [List.take_add_one, List.take_add_one, HE.out, HGa.out, HGb.out, hxy])
          clear hxy
          go_wp2_with fail
          go_roundw
          case rel => exact ⟨k + 1, by omega, by go_num, HX2, HE2⟩
          case measure => simp [intOf]; omega
        · have hq : (x == y) = false := by rw [beq_eq_false_iff_ne]; exact hxy
          have hne : decide (a = b) = false := by
            rw [decide_eq_false_iff_not]; rintro rfl
            rw [HGa.out] at HGb; exact hxy (by have := HGb.out; injection this)
          have HNe := Lib.hid hne
          clear hxy hne
          go_wp2_with fail
          rw [← HM.out]
          exact ⟨by rw [HNe.out]; rfl, HX2.out⟩
      case neg =>
        have : k = n := by omega
        subst this
        have heq : decide (a = b) = true := by
          rw [decide_eq_true_iff]
          have := HE.out
          rw [List.take_of_length_le (by rw [Hl.out]; exact Nat.le_refl _), List.take_of_length_le (by rw [Hn.out]; exact Nat.le_refl _)] at this
          exact this
        have HEq := Lib.hid heq
        clear heq
        go_wp2_with fail
        rw [← HM.out]
        exact ⟨by rw [HEq.out]; rfl, HX.out⟩
end Go.Proofs.YtlaepkmnbbgbcaaGreatDoor
/- Six. -/
namespace Go.Proofs.YtlaepkmnbbgbcaaGreatDoor
open Go.RowKit Go.Instr Go.Shelf
set_option linter.unusedVariables false
set_option linter.unusedSimpArgs false
attribute [local go_sem] Oper.semAt_some

theorem Blk.rd {α : Type} {enc : α → List Value} {w : World} {b : Nat} {t : TypeId} {l : List α} {c : Nat} (h : Blk w b (l.flatMap enc).toArray t) (hc : l.length ≤ c) : RdL enc w (.slice (some ⟨b, 0, none⟩) l.length c) l := by
  refine ⟨_, _, rfl, hc, fun e => (by cases e), fun ad had j u hu => ?_⟩
  injection had with had; subst had
  have ea : (⟨b, 0, none⟩ : Addr).add j = ⟨b, j, none⟩ := by unfold Addr.add; split <;> simp_all
  rw [ea, h.cell j]
  simpa using hu
def ints (b n : Nat) : Value := .slice (some ⟨b, 0, none⟩) n n
/-- The blocks of the code Six. -/
structure SixB (w : World) (n : Nat) (tx : ByteArray) : Prop where
  b1 : Blk w (n + 1) #[.int .i64 0] 3
  b2 : Blk w (n + 2) #[.int .i64 0] 3
  b4 : Blk w (n + 4) (sixI.flatMap encN).toArray 82
  b5 : Blk w (n + 5) (encD ⟨sixD, ints (n + 1) 1, ints (n + 2) 1, .slice none 0 0⟩).toArray 50
  b6 : Blk w (n + 6) #[.string tx] 9
def sixV (n : Nat) : Value := codeV (ints (n + 5) 1) (.slice none 0 0) (ints (n + 6) 1) (.slice none 0 0) (ints (n + 4) 10)
set_option maxRecDepth 100000 in
set_option maxHeartbeats 2000000 in
theorem Six_any {w : World} :
    Calls Tryz.prog 45 #[] w fun e w' => e = .returned (sixV w.heap.size) ∧ SixB w' w.heap.size ⟨#[54]⟩ ∧ Ex w w' := by
  go_enter Tryz.func45, Tryz.ntmps45
  go_wp2_with fail
  obtain ⟨n, hn⟩ : ∃ n, w.heap.size = n := ⟨_, rfl⟩
  rw [hn]
  have hx : Ex w w := Keeps.refl _ w
  obtain ⟨W0, hW0⟩ : ∃ W0, w.alloc (.cells #[.slice (some ⟨n + 1 + 1 + 1 + 1 + 1, 0, none⟩) 1 1, .slice none 0 0, .slice (some ⟨n + 1 + 1 + 1 + 1 + 1 + 1, 0, none⟩) 1 1, .slice none 0 0, .slice (some ⟨n + 1 + 1 + 1 + 1, 0, none⟩) 10 10] 28) = W0 := ⟨_, rfl⟩
  rw [hW0]
  have s0 : W0.heap.size = n + 1 := by rw [← hW0, World.size_alloc, hn]
  have k0 : Blk W0 n #[.slice (some ⟨n + 5, 0, none⟩) 1 1, .slice none 0 0, .slice (some ⟨n + 6, 0, none⟩) 1 1, .slice none 0 0, .slice (some ⟨n + 4, 0, none⟩) 10 10] 28 := by rw [← hW0, ← hn]; exact Blk.new w _ _
  have hx0 : Ex w W0 := by rw [← hW0]; exact hx.alloc _
  clear hW0
  obtain ⟨W1, hW1⟩ : ∃ W1, W0.alloc (.cells #[.int .i64 0] 3) = W1 := ⟨_, rfl⟩
  rw [hW1]
  have s1 : W1.heap.size = n + 2 := by rw [← hW1, World.size_alloc, s0]
  have k1 : Blk W1 (n + 1) #[.int .i64 0] 3 := by rw [← hW1, ← s0]; exact Blk.new _ _ _
  have x1 : Ex W0 W1 := by rw [← hW1]; exact (Keeps.refl _ _).alloc _
  clear hW1
  obtain ⟨W2, hW2⟩ : ∃ W2, W1.alloc (.cells #[.int .i64 0] 3) = W2 := ⟨_, rfl⟩
  rw [hW2]
  have s2 : W2.heap.size = n + 3 := by rw [← hW2, World.size_alloc, s1]
  have k2 : Blk W2 (n + 2) #[.int .i64 0] 3 := by rw [← hW2, ← s1]; exact Blk.new _ _ _
  have x2 : Ex W1 W2 := by rw [← hW2]; exact (Keeps.refl _ _).alloc _
  clear hW2
  obtain ⟨W3, hW3⟩ : ∃ W3, W2.alloc (.cells #[.int .i64 (-1), .slice (some ⟨n + 1, 0, none⟩) 1 1, .slice (some ⟨n + 1 + 1, 0, none⟩) 1 1, .int .i64 0, .int .i64 1, .slice none 0 0, .int .i64 4, .int .i64 (-1), .int .i64 7, .int .i64 (-1), .int .i64 3] 50) = W3 := ⟨_, rfl⟩
  rw [hW3]
  have s3 : W3.heap.size = n + 4 := by rw [← hW3, World.size_alloc, s2]
  have k3 : Blk W3 (n + 3) #[.int .i64 (-1), .slice (some ⟨n + 1, 0, none⟩) 1 1, .slice (some ⟨n + 1 + 1, 0, none⟩) 1 1, .int .i64 0, .int .i64 1, .slice none 0 0, .int .i64 4, .int .i64 (-1), .int .i64 7, .int .i64 (-1), .int .i64 3] 50 := by rw [← hW3, ← s2]; exact Blk.new _ _ _
  have x3 : Ex W2 W3 := by rw [← hW3]; exact (Keeps.refl _ _).alloc _
  clear hW3
  obtain ⟨W4, hW4⟩ : ∃ W4, W3.alloc (.cells #[.int .i64 6, .int .i64 0, .int .i64 0, .int .i64 20, .int .i64 0, .int .i64 0, .int .i64 26, .int .i64 0, .int .i64 0, .int .i64 55, .int .i64 0, .int .i64 0, .int .i64 1, .int .i64 0, .int .i64 0, .int .i64 10, .int .i64 0, .int .i64 0, .int .i64 36, .int .i64 0, .int .i64 0, .int .i64 1, .int .i64 0, .int .i64 0, .int .i64 51, .int .i64 0, .int .i64 0, .int .i64 36, .int .i64 0, .int .i64 0] 82) = W4 := ⟨_, rfl⟩
  rw [hW4]
  have s4 : W4.heap.size = n + 5 := by rw [← hW4, World.size_alloc, s3]
  have k4 : Blk W4 (n + 4) #[.int .i64 6, .int .i64 0, .int .i64 0, .int .i64 20, .int .i64 0, .int .i64 0, .int .i64 26, .int .i64 0, .int .i64 0, .int .i64 55, .int .i64 0, .int .i64 0, .int .i64 1, .int .i64 0, .int .i64 0, .int .i64 10, .int .i64 0, .int .i64 0, .int .i64 36, .int .i64 0, .int .i64 0, .int .i64 1, .int .i64 0, .int .i64 0, .int .i64 51, .int .i64 0, .int .i64 0, .int .i64 36, .int .i64 0, .int .i64 0] 82 := by rw [← hW4, ← s3]; exact Blk.new _ _ _
  have x4 : Ex W3 W4 := by rw [← hW4]; exact (Keeps.refl _ _).alloc _
  clear hW4
  obtain ⟨W5, hW5⟩ : ∃ W5, W4.alloc (.cells #[.int .i64 (-1), .slice (some ⟨n + 1, 0, none⟩) 1 1, .slice (some ⟨n + 1 + 1, 0, none⟩) 1 1, .int .i64 0, .int .i64 1, .slice none 0 0, .int .i64 4, .int .i64 (-1), .int .i64 7, .int .i64 (-1), .int .i64 3] 50) = W5 := ⟨_, rfl⟩
  rw [hW5]
  have s5 : W5.heap.size = n + 6 := by rw [← hW5, World.size_alloc, s4]
  have k5 : Blk W5 (n + 5) #[.int .i64 (-1), .slice (some ⟨n + 1, 0, none⟩) 1 1, .slice (some ⟨n + 1 + 1, 0, none⟩) 1 1, .int .i64 0, .int .i64 1, .slice none 0 0, .int .i64 4, .int .i64 (-1), .int .i64 7, .int .i64 (-1), .int .i64 3] 50 := by rw [← hW5, ← s4]; exact Blk.new _ _ _
  have x5 : Ex W4 W5 := by rw [← hW5]; exact (Keeps.refl _ _).alloc _
  clear hW5
  obtain ⟨W6, hW6⟩ : ∃ W6, W5.alloc (.cells #[.string ⟨#[54]⟩] 9) = W6 := ⟨_, rfl⟩
  rw [hW6]
  have s6 : W6.heap.size = n + 7 := by rw [← hW6, World.size_alloc, s5]
  have k6 : Blk W6 (n + 6) #[.string ⟨#[54]⟩] 9 := by rw [← hW6, ← s5]; exact Blk.new _ _ _
  have x6 : Ex W5 W6 := by rw [← hW6]; exact (Keeps.refl _ _).alloc _
  clear hW6
  have kc := x6.blk (x5.blk (x4.blk (x3.blk (x2.blk (x1.blk k0 id) id) id) id) id) id
  have hS : SixB W6 n ⟨#[54]⟩ := ⟨x6.blk (x5.blk (x4.blk (x3.blk (x2.blk k1 id) id) id) id) id, x6.blk (x5.blk (x4.blk (x3.blk k2 id) id) id) id, x6.blk (x5.blk k4 id) id, x6.blk k5 id, k6⟩
  have hx6 : Ex w W6 := hx0.trans (x1.trans (x2.trans (x3.trans (x4.trans (x5.trans x6)))))
  have z0 : W6.cell? ⟨n, 0, none⟩ = some (.slice (some ⟨n + 5, 0, none⟩) 1 1) := (kc.cell 0).trans rfl
  have z1 : W6.cell? ⟨n, 1, none⟩ = some (.slice none 0 0) := (kc.cell 1).trans rfl
  have z2 : W6.cell? ⟨n, 2, none⟩ = some (.slice (some ⟨n + 6, 0, none⟩) 1 1) := (kc.cell 2).trans rfl
  have z3 : W6.cell? ⟨n, 3, none⟩ = some (.slice none 0 0) := (kc.cell 3).trans rfl
  have z4 : W6.cell? ⟨n, 4, none⟩ = some (.slice (some ⟨n + 4, 0, none⟩) 10 10) := (kc.cell 4).trans rfl
  have HS := Lib.hid hS; have HX := Lib.hid hx6
  clear s0 s1 s2 s3 s4 s5 s6 k0 k1 k2 k3 k4 k5 k6 x1 x2 x3 x4 x5 x6 kc hS hx6 hx0
  refine bodyPost_ret (v := sixV n) ?_ rfl ⟨rfl, HS.out, HX.out⟩
  unfold sixV codeV ints
  simp [results, Tryz.results45, go_sem, z0, z1, z2, z3, z4]
theorem SixB.rd {w : World} {n : Nat} {tx : ByteArray} (h : SixB w n tx) : RdCo w (ints (n + 5) 1) (.slice none 0 0) (ints (n + 6) 1) (.slice none 0 0) (ints (n + 4) 10) ⟨[sixD], [], [tx], [], sixI⟩ [⟨sixD, ints (n + 1) 1, ints (n + 2) 1, .slice none 0 0⟩] where
  ds := Blk.rd (l := [(⟨sixD, ints (n + 1) 1, ints (n + 2) 1, .slice none 0 0⟩ : DeV)]) (by simpa using h.b5) (Nat.le_refl _)
  de := by
    intro x hx
    obtain rfl : x = _ := by simpa using hx
    exact ⟨Blk.rd (l := [0]) (by simpa [encI] using h.b1) (Nat.le_refl _), Blk.rd (l := [0]) (by simpa [encI] using h.b2) (Nat.le_refl _), RdL.nil _⟩
  eq := rfl
  ls := RdL.nil _
  ts := Blk.rd (l := [tx]) (by simpa [encS] using h.b6) (Nat.le_refl _)
  rs := RdL.nil _
  is := Blk.rd (l := sixI) h.b4 (Nat.le_refl _)
theorem six_big (tx : ByteArray) (h : tx.size ≤ 1000000) : Big ⟨[sixD], [], [tx], [], sixI⟩ where
  d := by show 1 ≤ 1000000; omega
  l := by show 0 ≤ 1000000; omega
  t := by show 1 ≤ 1000000; omega
  r := by show 0 ≤ 1000000; omega
  i := by show 10 ≤ 1000000; omega
  s := by
    intro s hs
    have : s = tx := by simpa using hs
    rw [this]; exact h
  e := by
    intro d hd
    have : d = sixD := by simpa using hd
    rw [this]; decide
end Go.Proofs.YtlaepkmnbbgbcaaGreatDoor
