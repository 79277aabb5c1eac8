/- HeapZero: the walk. -/
import Derived.Test.YtikigppfnhilhaaGPD52
/- HeapZero: the walk. -/
namespace Go.Proofs.Ytikigppfnhilhaa
open Go.RowKit Go.Instr
set_option linter.unusedVariables false
set_option linter.unusedSimpArgs false
attribute [local go_sem] Oper.semAt_some

set_option maxRecDepth 100000 in
set_option maxHeartbeats 16000000 in
theorem HeapZero_any {lv : Value} {l : List Ac} {w : World} (hl : RdA w lv l) (hn : l.length ≤ 1048576) (hroots : ∀ x ∈ l, x.roots.length ≤ 1048576) :
    Calls Try.prog 9 #[lv] w (BoolR true w) := by
  generalize hM : BoolR true w = M
  have HM := Lib.hid hM
  have HL := Lib.hid hl; have Hroots := Lib.hid hroots
  obtain ⟨la, lc, rfl, hla, -⟩ := hl
  have Hla := Lib.hid hla
  clear hM hla hroots
  go_enter Try.func9, Try.ntmps9
  go_wp2_with fail
  refine (awake_any _).mono ?_
  rintro e w1 ⟨rfl, hx1⟩
  have HX1 := Lib.hid hx1
  have HR := Lib.hid (RNew_good 0 0 (by decide) (by decide) (by decide) (by decide) w1)
  clear hx1
  go_wp2_with fail
  refine HR.out.mono ?_
  rintro e w3 ⟨rfl, hx3⟩
  have HX3 := Lib.hid (HX1.out.trans hx3)
  have Hs3 := Lib.hid hx3.size
  have HX13 := Lib.hid hx3
  clear hx3 HR
  go_upto_region 3 with fail
  obtain ⟨rp, hrp⟩ : ∃ rp, w3.heap.size = rp := ⟨_, rfl⟩
  obtain ⟨W4, hW4⟩ : ∃ W4, w3.alloc (.cells #[.int .i64 0, .int .i64 0, .slice none 0 0, .slice none 0 0, .slice none 0 0] 69) = W4 := ⟨_, rfl⟩
  have HB4 : Hid (Blk W4 rp #[.int .i64 0, .int .i64 0, .slice none 0 0, .slice none 0 0, .slice none 0 0] 69) := Lib.hid (by rw [← hW4, ← hrp]; exact Blk.new _ _ _)
  have HX14 : Hid (Ext w1 W4) := Lib.hid (by rw [← hW4]; exact HX13.out.alloc _)
  have HX4 : Hid (Ext w W4) := Lib.hid (by rw [← hW4]; exact HX3.out.alloc _)
  have Hrp : Hid (w1.heap.size ≤ rp ∧ w1.heap.size ≤ W4.heap.size) := Lib.hid ⟨by rw [← hrp]; exact Hs3.out, by rw [← hW4]; simp; have := Hs3.out; omega⟩
  rw [hrp, hW4]
  clear hrp hW4 HX3 Hs3 HX13
  go_upto_region 7 with fail
  obtain ⟨hp, hhp⟩ : ∃ hp, W4.heap.size = hp := ⟨_, rfl⟩
  obtain ⟨W5, hW5⟩ : ∃ W5, W4.alloc (.cells #[.int .i64 0, .int .i64 0, .int .i64 0, .slice none 0 0, .int .i64 0, .int .i64 0, .int .i64 0, .slice none 0 0, .map none, .map none] 81) = W5 := ⟨_, rfl⟩
  have hx45 : Ext W4 W5 := by rw [← hW5]; exact (Ext.refl _).alloc _
  have hb5 : Blk W5 hp #[.int .i64 0, .int .i64 0, .int .i64 0, .slice none 0 0, .int .i64 0, .int .i64 0, .int .i64 0, .slice none 0 0, .map none, .map none] 81 := by rw [← hW5, ← hhp]; exact Blk.new _ _ _
  have HX5 := Lib.hid (HX4.out.trans hx45)
  have hpr : rp < hp := by rw [← hhp]; exact HB4.out.lt
  have HJ5 : Hid (Joint w1.heap.size (StH w1 hp 0 0) rp W5 h0 (zero0 hp).fp (new0 rp 0 0)) := Lib.hid (by
    have hle : w1.heap.size ≤ hp := by have := Hrp.out.1; omega
    refine ⟨⟨zero0 hp, ⟨HRep.zero hb5 hle, rfl, LInv.new _ _, rfl, rfl, ?_⟩, rfl, rfl⟩, RRep.new (hx45.blk HB4.out id) Hrp.out.1 (by decide) (by decide) (by decide) (by decide), rfl, ⟨rfl, rfl, rfl, rfl, fun _ => Iff.rfl⟩, fun k hk hf => ?_⟩
    · exact HX14.out.trans hx45
    · have h1 := zero0_fp hk
      rcases hf with e | hf | hf | hf | hf
      · have e2 : k = rp := e
        omega
      · simp [new0, Value.ownBlock] at hf
      · simp [new0, Value.ownBlock] at hf
      · simp [new0, Value.ownBlock] at hf
      · simp [new0, RH.all] at hf)
  have Hwb : Hid (w.heap.size ≤ w1.heap.size) := Lib.hid HX1.out.size
  have OZ := heapOps w1 hp 0 0
  have ON := nilOps w1 hp
  obtain ⟨base, hbase⟩ : ∃ base, w1.heap.size = base := ⟨_, rfl⟩
  obtain ⟨St, hSt⟩ : ∃ St, StH w1 hp 0 0 = St := ⟨_, rfl⟩
  rw [hhp, hW5]
  rw [hbase, hSt] at HJ5 OZ ON
  rw [hbase] at Hwb
  clear hbase hSt hW5 hhp hx45 hb5 hpr HB4 HX4 Hrp
  go_wp2_with fail
  go_loopw [8] (fun iv wr => ∃ (k : Nat) (h : LH) (P : Nat → Prop) (r : RH), k ≤ l.length ∧ iv = .int .i64 k ∧ Hid (Joint base St rp wr h P r) ∧ Hid (Ext w wr)) (fun iv wr => l.length - (intOf iv).toNat)
  case atStart => exact ⟨0, _, _, _, Nat.zero_le _, rfl, HJ5, HX5⟩
  case round =>
  clear HJ5 HX5
  obtain ⟨k, h, P, r, hk, rfl, HJwr, HEwr⟩ := hrel
  by_cases hlt : k < l.length ∧ k < 60
  · obtain ⟨hlt, h60⟩ := hlt
    obtain ⟨act, hact⟩ : ∃ act, l[k]? = some act := ⟨_, List.getElem?_eq_getElem hlt⟩
    cases la with
    | none => rw [Hla.out rfl] at hlt; simp at hlt
    | some ad =>
    obtain ⟨A, hA⟩ : ∃ A, ad.add (k * 11) = A := ⟨_, rfl⟩
    obtain ⟨ra, rc, hS, hrr⟩ := HL.out.at_ hact hA
    have hrl := Hroots.out act (List.mem_of_getElem? hact)
    have HS0 : Hid (w.cell? A = some (.int .i64 act.kind) ∧ w.cell? { block := A.block, off := A.off + (0 + 1) } = some (.int .i64 act.a) ∧ w.cell? { block := A.block, off := A.off + (1 + 1) } = some (.int .i64 act.b) ∧ w.cell? { block := A.block, off := A.off + (2 + 1) } = some (.int .i64 act.w.tag) ∧ w.cell? { block := A.block, off := A.off + (3 + 1) } = some (.int .i64 act.w.a) ∧ w.cell? { block := A.block, off := A.off + (4 + 1) } = some (.int .i64 act.w.b) ∧ w.cell? { block := A.block, off := A.off + (5 + 1) } = some (.string act.w.text) ∧ w.cell? { block := A.block, off := A.off + (6 + 1) } = some (.int .i64 act.w.man) ∧ w.cell? { block := A.block, off := A.off + (7 + 1) } = some (.int .i64 act.w.exp) ∧ w.cell? { block := A.block, off := A.off + (8 + 1) } = some (.slice ra act.roots.length rc) ∧ w.cell? { block := A.block, off := A.off + (9 + 1) } = some (.bool act.near)) := Lib.hid hS
    have HSA : ∀ V, Ext w V → Hid (V.cell? A = some (.int .i64 act.kind) ∧ V.cell? { block := A.block, off := A.off + (0 + 1) } = some (.int .i64 act.a) ∧ V.cell? { block := A.block, off := A.off + (1 + 1) } = some (.int .i64 act.b) ∧ V.cell? { block := A.block, off := A.off + (2 + 1) } = some (.int .i64 act.w.tag) ∧ V.cell? { block := A.block, off := A.off + (3 + 1) } = some (.int .i64 act.w.a) ∧ V.cell? { block := A.block, off := A.off + (4 + 1) } = some (.int .i64 act.w.b) ∧ V.cell? { block := A.block, off := A.off + (5 + 1) } = some (.string act.w.text) ∧ V.cell? { block := A.block, off := A.off + (6 + 1) } = some (.int .i64 act.w.man) ∧ V.cell? { block := A.block, off := A.off + (7 + 1) } = some (.int .i64 act.w.exp) ∧ V.cell? { block := A.block, off := A.off + (8 + 1) } = some (.slice ra act.roots.length rc) ∧ V.cell? { block := A.block, off := A.off + (9 + 1) } = some (.bool act.near)) := fun V hV => Lib.hid (by obtain ⟨d0, d1, d2, d3, d4, d5, d6, d7, d8, d9, d10⟩ := HS0.out; exact ⟨hV.cell d0, hV.cell d1, hV.cell d2, hV.cell d3, hV.cell d4, hV.cell d5, hV.cell d6, hV.cell d7, hV.cell d8, hV.cell d9, hV.cell d10⟩)
    have Hrr := Lib.hid hrr
    clear hS hrr
    obtain ⟨d0, d1, d2, d3, d4, d5, d6, d7, d8, d9, d10⟩ := (HSA wr HEwr.out).out
    have hj' : Joint base St r.rp wr h P r := by rw [HJwr.out.rp_]; exact HJwr.out
    have HD0 := did_any ON hj' act (Hrr.out.ext HEwr.out) (fun hn k hk => ⟨fun hf => by have h1 := Hrr.out.lt hn hk; have h2 := Hwb.out; have := ON.low HJwr.out.st k hf; omega, fun hf => by have h1 := Hrr.out.lt hn hk; have h2 := Hwb.out; have := HJwr.out.ref.base_ k hf; omega⟩) hrl
    rw [HJwr.out.rp_] at HD0
    unfold Ac.box at HD0
    have HD := Lib.hid HD0
    clear hj' HD0
    go_wp2_with fail
    refine HD.out.mono ?_
    rintro e w10 ⟨rfl, h1, P1, r1, hJ, hK⟩
    have HJw10 := Lib.hid hJ
    have HEw10 : Hid (Ext w w10) := Lib.hid (HEwr.out.trans' hK fun k hk e => by
      have h2 := Hwb.out
      rcases e with e | e
      · have := ON.low HJwr.out.st k e; omega
      · have := HJwr.out.ref.base_ k e; omega)
    clear hJ hK HD HJwr HEwr d0 d1 d2 d3 d4 d5 d6 d7 d8 d9 d10
    obtain ⟨d0, d1, d2, d3, d4, d5, d6, d7, d8, d9, d10⟩ := (HSA w10 HEw10.out).out
    have hj' : Joint base St r1.rp w10 h1 P1 r1 := by rw [HJw10.out.rp_]; exact HJw10.out
    have HD0 := did_any OZ hj' act (Hrr.out.ext HEw10.out) (fun hn k hk => ⟨fun hf => by have h1 := Hrr.out.lt hn hk; have h2 := Hwb.out; have := ON.low HJw10.out.st k hf; omega, fun hf => by have h1 := Hrr.out.lt hn hk; have h2 := Hwb.out; have := HJw10.out.ref.base_ k hf; omega⟩) hrl
    rw [HJw10.out.rp_] at HD0
    unfold Ac.box at HD0
    have HD := Lib.hid HD0
    clear hj' HD0
    go_wp2_with fail
    refine HD.out.mono ?_
    rintro e w11 ⟨rfl, h11, P11, r11, hJ, hK⟩
    have HJw11 := Lib.hid hJ
    have HEw11 : Hid (Ext w w11) := Lib.hid (HEw10.out.trans' hK fun k hk e => by
      have h2 := Hwb.out
      rcases e with e | e
      · have := ON.low HJw10.out.st k e; omega
      · have := HJw10.out.ref.base_ k e; omega)
    clear hJ hK HD HJw10 HEw10 d0 d1 d2 d3 d4 d5 d6 d7 d8 d9 d10
    have hj' : Joint base St r11.rp w11 h11 P11 r11 := by rw [HJw11.out.rp_]; exact HJw11.out
    have HA0 := alike_any ON hj'
    rw [HJw11.out.rp_] at HA0
    have HA := Lib.hid HA0
    clear hj' HA0
    go_wp2_with fail
    refine HA.out.mono ?_
    rintro e w12 ⟨rfl, hx⟩
    have HJw12 := Lib.hid (HJw11.out.ext ON hx)
    have HEw12 : Hid (Ext w w12) := Lib.hid (HEw11.out.trans hx)
    clear hx HA HJw11 HEw11
    have hj' : Joint base St r11.rp w12 h11 P11 r11 := by rw [HJw12.out.rp_]; exact HJw12.out
    have HA0 := alike_any OZ hj'
    rw [HJw12.out.rp_] at HA0
    have HA := Lib.hid HA0
    clear hj' HA0
    go_wp2_with fail
    refine HA.out.mono ?_
    rintro e w13 ⟨rfl, hx⟩
    have HJw13 := Lib.hid (HJw12.out.ext ON hx)
    have HEw13 : Hid (Ext w w13) := Lib.hid (HEw12.out.trans hx)
    clear hx HA HJw12 HEw12
    go_wp2_with fail
    exact ⟨⟨k + 1, h11, P11, r11, hlt, by simp, HJw13, HEw13⟩, by simp only [intOf]; omega⟩
  · rcases Nat.lt_or_ge k l.length with h1 | h1
    · have h60 : ¬ k < 60 := fun e => hlt ⟨h1, e⟩
      clear hlt
      have h2 : 60 ≤ k := by omega
      go_wp2_with fail
      rw [← HM.out]
      exact ⟨rfl, HEwr.out⟩
    · have hke : k = l.length := by omega
      subst hke
      clear hlt h1
      go_wp2_with fail
      rw [← HM.out]
      exact ⟨rfl, HEwr.out⟩
end Go.Proofs.Ytikigppfnhilhaa
