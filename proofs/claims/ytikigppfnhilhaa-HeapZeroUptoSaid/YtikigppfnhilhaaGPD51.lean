/- HeapDoes: the heap does what the reference does. -/
import Derived.Test.YtikigppfnhilhaaGPD50
/- HeapDoes: the heap does what the reference does. -/
namespace Go.Proofs.Ytikigppfnhilhaa
open Go.RowKit Go.Instr
set_option linter.unusedVariables false
set_option linter.unusedSimpArgs false
attribute [local go_sem] Oper.semAt_some

def new0 (rp : Nat) (y o : Int) : RH := ⟨rp, y, o, .slice none 0 0, .slice none 0 0, .slice none 0 0, [], [], []⟩
theorem RRep.new {w : World} {base rp : Nat} {y o : Int} (hb : Blk w rp #[.int .i64 y, .int .i64 o, .slice none 0 0, .slice none 0 0, .slice none 0 0] 69) (hrp : base ≤ rp) (y0 : 0 ≤ y) (y1 : y ≤ 1000) (o0 : 0 ≤ o) (o1 : o ≤ 1000) : RRep w base (new0 rp y o) :=
  RRep.mk2 (n := base) hb hrp (Nat.le_refl _) (FreshRow.nil _ _) (FreshRow.nil _ _) (World.ownsRow_nil _ _ _ _) (fun k hk => by simp [new0, Value.ownBlock] at hk) (fun y hy => by simp [new0] at hy) List.Pairwise.nil (fun k hk => by simp [new0] at hk)
    ⟨y0, o0, by show bused [] ≤ y; simp [bused]; exact y0, by show bused [] ≤ o; simp [bused]; exact o0, trivial, trivial⟩ y1 o1

set_option maxRecDepth 100000 in
set_option maxHeartbeats 16000000 in
theorem HeapDoes_any (young old : Int) {lv : Value} {l : List Ac} {w : World} (hl : RdA w lv l) (hn : l.length ≤ 1048576) (hroots : ∀ x ∈ l, x.roots.length ≤ 1048576) :
    Calls Try.prog 8 #[.int .i64 young, .int .i64 old, lv] w (BoolR true w) := by
  generalize hM : BoolR true w = M
  have HM := Lib.hid hM
  have HL := Lib.hid hl; have Hroots := Lib.hid hroots
  obtain ⟨la, lc, rfl, hla, -⟩ := hl
  have Hla := Lib.hid hla
  clear hM hla hroots
  go_enter Try.func8, Try.ntmps8
  go_wp2_with fail
  refine (awake_any _).mono ?_
  rintro e w1 ⟨rfl, hx1⟩
  have HX1 := Lib.hid hx1
  clear hx1
  by_cases hbad : young < 0 ∨ 100000 < young ∨ old < 0 ∨ 100000 < old
  · have HN := Lib.hid (New_bad young old hbad w1)
    have HR := Lib.hid (RNew_bad young old hbad w1)
    clear hbad
    go_wp2_with fail
    refine HN.out.mono ?_
    rintro e w2 ⟨rfl, rfl⟩
    clear HN
    go_wp2_with fail
    refine HR.out.mono ?_
    rintro e w3 ⟨rfl, hx3⟩
    have HX3 := Lib.hid (HX1.out.trans hx3)
    clear hx3 HR
    go_upto_region 4 with fail
    obtain ⟨W4, hW4⟩ : ∃ W4, w3.alloc (.cells #[.int .i64 0, .int .i64 0, .slice none 0 0, .slice none 0 0, .slice none 0 0] 69) = W4 := ⟨_, rfl⟩
    have HX4 : Hid (Ext w W4) := Lib.hid (by rw [← hW4]; exact HX3.out.alloc _)
    rw [hW4]
    clear hW4
    go_wp2_with fail
    rw [← HM.out]
    exact ⟨rfl, HX4.out⟩
  have hy0 : 0 ≤ young := by omega
  have hy1 : young ≤ 100000 := by omega
  have ho0 : 0 ≤ old := by omega
  have ho1 : old ≤ 100000 := by omega
  have HN := Lib.hid (New_good young old hy0 hy1 ho0 ho1 w1)
  have HR := Lib.hid (RNew_good young old hy0 hy1 ho0 ho1)
  clear hbad
  go_wp2_with fail
  refine HN.out.mono ?_
  rintro e w2 ⟨x, rfl, hrep, hlog, hx2⟩
  obtain ⟨hp, hhp⟩ : ∃ hp, x.hp = hp := ⟨_, rfl⟩
  rw [hhp]
  have H2 : Hid (Heap w1 w2 hp young old x) := Lib.hid ⟨hrep, hhp, by rw [hlog]; exact LInv.new _ _, congrArg LH.Y hlog, congrArg LH.O hlog, hx2⟩
  have Hlog := Lib.hid hlog
  have HR2 := Lib.hid (HR.out w2)
  have HX2 := Lib.hid (HX1.out.trans hx2)
  clear hrep hlog hx2 hhp HN HR
  go_wp2_with fail
  refine HR2.out.mono ?_
  rintro e w3 ⟨rfl, hx3⟩
  have H3 := Lib.hid (H2.out.later hx3)
  have HX3 := Lib.hid (HX2.out.trans hx3)
  clear hx3 HR2 H2 HX2
  go_upto_region 4 with fail
  obtain ⟨rp, hrp⟩ : ∃ rp, w3.heap.size = rp := ⟨_, rfl⟩
  obtain ⟨W4, hW4⟩ : ∃ W4, w3.alloc (.cells #[.int .i64 young, .int .i64 old, .slice none 0 0, .slice none 0 0, .slice none 0 0] 69) = W4 := ⟨_, rfl⟩
  have hxw4 : Ext w3 W4 := by rw [← hW4]; exact (Ext.refl _).alloc _
  have HB4 : Hid (Blk W4 rp #[.int .i64 young, .int .i64 old, .slice none 0 0, .slice none 0 0, .slice none 0 0] 69) := Lib.hid (by rw [← hW4, ← hrp]; exact Blk.new _ _ _)
  have HX4 := Lib.hid (HX3.out.trans hxw4)
  rw [hrp, hW4]
  by_cases hbig : 300 < young ∨ 300 < old
  · clear hW4 hrp hxw4
    rcases hbig with hb | hb
    · have hb' : young > 300 := hb
      go_wp2_with fail
      rw [← HM.out]
      exact ⟨rfl, HX4.out⟩
    · by_cases hb2 : 300 < young
      · have hb' : young > 300 := hb2
        go_wp2_with fail
        rw [← HM.out]
        exact ⟨rfl, HX4.out⟩
      · have hb2' : young ≤ 300 := by omega
        clear hb2
        go_wp2_with fail
        rw [← HM.out]
        exact ⟨rfl, HX4.out⟩
  have hy3 : young ≤ 300 := by omega
  have ho3 : old ≤ 300 := by omega
  have H4 := Lib.hid (H3.out.later hxw4)
  have HJ4 : Hid (Joint w1.heap.size (StH w1 hp young old) rp W4 ⟨young, old, [], [], []⟩ x.fp (new0 rp young old)) := Lib.hid (by
    refine ⟨⟨x, H4.out, Hlog.out, rfl⟩, RRep.new HB4.out (by rw [← hrp]; exact H3.out.ext.size) hy0 (by omega) ho0 (by omega), rfl, ⟨rfl, rfl, rfl, rfl, fun _ => Iff.rfl⟩, fun k hk hf => ?_⟩
    have h1 := H3.out.rep.fp_lt k hk
    rcases hf with e | hf | hf | hf | hf
    · rw [hrp, e] at h1; exact Nat.lt_irrefl _ h1
    · simp [new0, Value.ownBlock] at hf
    · simp [new0, Value.ownBlock] at hf
    · simp [new0, Value.ownBlock] at hf
    · simp [new0, RH.all] at hf)
  have Hwb : Hid (w.heap.size ≤ w1.heap.size) := Lib.hid HX1.out.size
  have O := heapOps w1 hp young old
  obtain ⟨base, hbase⟩ : ∃ base, w1.heap.size = base := ⟨_, rfl⟩
  obtain ⟨St, hSt⟩ : ∃ St, StH w1 hp young old = St := ⟨_, rfl⟩
  rw [hbase, hSt] at HJ4 O
  rw [hbase] at Hwb
  clear hW4 hrp hxw4 hbig hbase hSt H3 H4 HB4 HX3 Hlog
  go_wp2_with fail
  go_loopw [12] (fun iv wr => ∃ (k : Nat) (h : LH) (P : Nat → Prop) (r : RH), k ≤ l.length ∧ iv = .int .i64 k ∧ Hid (Joint base St rp wr h P r) ∧ Hid (Ext w wr)) (fun iv wr => l.length - (intOf iv).toNat)
  case atStart => exact ⟨0, _, _, _, Nat.zero_le _, rfl, HJ4, HX4⟩
  case round =>
  clear HJ4 HX4
  obtain ⟨k, h, P, r, hk, rfl, HJ, HE⟩ := hrel
  by_cases hlt : k < l.length ∧ k < 60
  · obtain ⟨hlt, h60⟩ := hlt
    obtain ⟨act, hact⟩ : ∃ act, l[k]? = some act := ⟨_, List.getElem?_eq_getElem hlt⟩
    cases la with
    | none => rw [Hla.out rfl] at hlt; simp at hlt
    | some ad =>
    obtain ⟨A, hA⟩ : ∃ A, ad.add (k * 11) = A := ⟨_, rfl⟩
    obtain ⟨ra, rc, hS, hrr⟩ := HL.out.at_ hact hA
    have hrl := Hroots.out act (List.mem_of_getElem? hact)
    have Hall : Hid (h.all.length ≤ 1000000) := Lib.hid (by rw [HJ.out.cpl.all]; exact Nat.le_trans HJ.out.ref.alllen (by omega))
    have HS0 : Hid (w.cell? A = some (.int .i64 act.kind) ∧ w.cell? { block := A.block, off := A.off + (0 + 1) } = some (.int .i64 act.a) ∧ w.cell? { block := A.block, off := A.off + (1 + 1) } = some (.int .i64 act.b) ∧ w.cell? { block := A.block, off := A.off + (2 + 1) } = some (.int .i64 act.w.tag) ∧ w.cell? { block := A.block, off := A.off + (3 + 1) } = some (.int .i64 act.w.a) ∧ w.cell? { block := A.block, off := A.off + (4 + 1) } = some (.int .i64 act.w.b) ∧ w.cell? { block := A.block, off := A.off + (5 + 1) } = some (.string act.w.text) ∧ w.cell? { block := A.block, off := A.off + (6 + 1) } = some (.int .i64 act.w.man) ∧ w.cell? { block := A.block, off := A.off + (7 + 1) } = some (.int .i64 act.w.exp) ∧ w.cell? { block := A.block, off := A.off + (8 + 1) } = some (.slice ra act.roots.length rc) ∧ w.cell? { block := A.block, off := A.off + (9 + 1) } = some (.bool act.near)) := Lib.hid hS
    have HEw9 : Hid (Ext w wr.drew) := Lib.hid HE.out.drew
    have HS : Hid (wr.drew.cell? A = some (.int .i64 act.kind) ∧ wr.drew.cell? { block := A.block, off := A.off + (0 + 1) } = some (.int .i64 act.a) ∧ wr.drew.cell? { block := A.block, off := A.off + (1 + 1) } = some (.int .i64 act.b) ∧ wr.drew.cell? { block := A.block, off := A.off + (2 + 1) } = some (.int .i64 act.w.tag) ∧ wr.drew.cell? { block := A.block, off := A.off + (3 + 1) } = some (.int .i64 act.w.a) ∧ wr.drew.cell? { block := A.block, off := A.off + (4 + 1) } = some (.int .i64 act.w.b) ∧ wr.drew.cell? { block := A.block, off := A.off + (5 + 1) } = some (.string act.w.text) ∧ wr.drew.cell? { block := A.block, off := A.off + (6 + 1) } = some (.int .i64 act.w.man) ∧ wr.drew.cell? { block := A.block, off := A.off + (7 + 1) } = some (.int .i64 act.w.exp) ∧ wr.drew.cell? { block := A.block, off := A.off + (8 + 1) } = some (.slice ra act.roots.length rc) ∧ wr.drew.cell? { block := A.block, off := A.off + (9 + 1) } = some (.bool act.near)) := Lib.hid (by obtain ⟨d0, d1, d2, d3, d4, d5, d6, d7, d8, d9, d10⟩ := HS0.out; exact ⟨HEw9.out.cell d0, HEw9.out.cell d1, HEw9.out.cell d2, HEw9.out.cell d3, HEw9.out.cell d4, HEw9.out.cell d5, HEw9.out.cell d6, HEw9.out.cell d7, HEw9.out.cell d8, HEw9.out.cell d9, HEw9.out.cell d10⟩)
    have HJw9 : Hid (Joint base St rp wr.drew h P r) := Lib.hid (HJ.out.ext O (Ext.refl wr).drew)
    have Hrr := Lib.hid hrr
    clear hS hrr HJ HE HS0
    go_upto_region 11 with fail
    refine region_S_plain (n := 3) (fun V => V.cell? A = some (.int .i64 act.kind) ∧ V.cell? { block := A.block, off := A.off + (0 + 1) } = some (.int .i64 act.a) ∧ V.cell? { block := A.block, off := A.off + (1 + 1) } = some (.int .i64 act.b) ∧ V.cell? { block := A.block, off := A.off + (2 + 1) } = some (.int .i64 act.w.tag) ∧ V.cell? { block := A.block, off := A.off + (3 + 1) } = some (.int .i64 act.w.a) ∧ V.cell? { block := A.block, off := A.off + (4 + 1) } = some (.int .i64 act.w.b) ∧ V.cell? { block := A.block, off := A.off + (5 + 1) } = some (.string act.w.text) ∧ V.cell? { block := A.block, off := A.off + (6 + 1) } = some (.int .i64 act.w.man) ∧ V.cell? { block := A.block, off := A.off + (7 + 1) } = some (.int .i64 act.w.exp) ∧ V.cell? { block := A.block, off := A.off + (8 + 1) } = some (.slice ra act.roots.length rc) ∧ V.cell? { block := A.block, off := A.off + (9 + 1) } = some (.bool act.near)) 7 (by kernel_rfl) ?_
    generalize wr.drew = w9 at HS HJw9 HEw9 ⊢
    refine anyS_quiet (a2 := ?a1) 1 rfl rfl rfl (by kernel_rfl) (by kernel_rfl) (by kernel_rfl) (by kernel_rfl) (by kernel_rfl) (by kernel_rfl) (fun _ _ _ _ h => h) HS.out ?h1 ?k1
    case h1 => intro W hW K hK; obtain ⟨d0, d1, d2, d3, d4, d5, d6, d7, d8, d9, d10⟩ := hW; go_simp; exact hK
    refine anyS_quiet (a2 := ?a2) 2 rfl rfl rfl (by kernel_rfl) (by kernel_rfl) (by kernel_rfl) (by kernel_rfl) (by kernel_rfl) (by kernel_rfl) (fun _ _ _ _ h => h) HS.out ?h2 ?k2
    case h2 => intro W hW K hK; obtain ⟨d0, d1, d2, d3, d4, d5, d6, d7, d8, d9, d10⟩ := hW; go_simp; exact hK
    refine anyS_quiet (a2 := ?a3) 3 rfl rfl rfl (by kernel_rfl) (by kernel_rfl) (by kernel_rfl) (by kernel_rfl) (by kernel_rfl) (by kernel_rfl) (fun _ _ _ _ h => h) HS.out ?h3 ?k3
    case h3 => intro W hW K hK; obtain ⟨d0, d1, d2, d3, d4, d5, d6, d7, d8, d9, d10⟩ := hW; go_simp; exact hK
    refine anyS_quiet (a2 := ?a4) 4 rfl rfl rfl (by kernel_rfl) (by kernel_rfl) (by kernel_rfl) (by kernel_rfl) (by kernel_rfl) (by kernel_rfl) (fun _ _ _ _ h => h) HS.out ?h4 ?k4
    case h4 => intro W hW K hK; obtain ⟨d0, d1, d2, d3, d4, d5, d6, d7, d8, d9, d10⟩ := hW; go_simp; exact hK
    refine anyS_two 0 6 rfl rfl (by kernel_rfl) ?_ ?_
    · have HCB := Lib.hid (RBlocks_any HJw9.out.ref)
      rw [HJw9.out.rp_] at HCB
      gi_wp2_with fail
      refine (callsIn_WF HCB.out).mono ?_
      rintro e w10 ⟨bv, rfl, hrow, hx⟩
      have HJw10 := Lib.hid (HJw9.out.ext O hx)
      have HEw10 : Hid (Ext w w10) := Lib.hid (HEw9.out.trans hx)
      have hrb := rdB_of_rowR hrow HJw10.out.ref.wo
      rw [← RH.log_all, ← HJw10.out.cpl.all] at hrb
      have HOBw10 := Lib.hid hrb
      have HS : Hid (w10.cell? A = some (.int .i64 act.kind) ∧ w10.cell? { block := A.block, off := A.off + (0 + 1) } = some (.int .i64 act.a) ∧ w10.cell? { block := A.block, off := A.off + (1 + 1) } = some (.int .i64 act.b) ∧ w10.cell? { block := A.block, off := A.off + (2 + 1) } = some (.int .i64 act.w.tag) ∧ w10.cell? { block := A.block, off := A.off + (3 + 1) } = some (.int .i64 act.w.a) ∧ w10.cell? { block := A.block, off := A.off + (4 + 1) } = some (.int .i64 act.w.b) ∧ w10.cell? { block := A.block, off := A.off + (5 + 1) } = some (.string act.w.text) ∧ w10.cell? { block := A.block, off := A.off + (6 + 1) } = some (.int .i64 act.w.man) ∧ w10.cell? { block := A.block, off := A.off + (7 + 1) } = some (.int .i64 act.w.exp) ∧ w10.cell? { block := A.block, off := A.off + (8 + 1) } = some (.slice ra act.roots.length rc) ∧ w10.cell? { block := A.block, off := A.off + (9 + 1) } = some (.bool act.near)) := Lib.hid (by obtain ⟨d0, d1, d2, d3, d4, d5, d6, d7, d8, d9, d10⟩ := HS.out; exact ⟨hx.cell d0, hx.cell d1, hx.cell d2, hx.cell d3, hx.cell d4, hx.cell d5, hx.cell d6, hx.cell d7, hx.cell d8, hx.cell d9, hx.cell d10⟩)
      clear hrow hx hrb HCB HJw9 HEw9
      gi_wp2
      refine And.intro (.inr HS.out) ?_
      refine anyS_two 5 6 rfl rfl (by kernel_rfl) ?_ ?_
      · have HFX := Lib.hid (fixed_any HOBw10.out Hall.out act ra rc (Hrr.out.ext HEw10.out) hrl)
        gi_wp2_with fail
        refine (callsIn_WF HFX.out).mono ?_
        rintro e w11 ⟨ra2, rc2, rfl, hrd, hsrc, hx⟩
        obtain ⟨y, hy⟩ : ∃ y, fixedA h.all act = y := ⟨_, rfl⟩
        rw [hy] at hrd hsrc ⊢
        have HRDw11 := Lib.hid hrd
        have Hyl : Hid (y.roots.length ≤ 1048576) := Lib.hid (by rw [← hy]; exact fixedA_len hrl)
        have HS : Hid (w11.cell? A = some (.int .i64 act.kind) ∧ w11.cell? { block := A.block, off := A.off + (0 + 1) } = some (.int .i64 act.a) ∧ w11.cell? { block := A.block, off := A.off + (1 + 1) } = some (.int .i64 act.b) ∧ w11.cell? { block := A.block, off := A.off + (2 + 1) } = some (.int .i64 act.w.tag) ∧ w11.cell? { block := A.block, off := A.off + (3 + 1) } = some (.int .i64 act.w.a) ∧ w11.cell? { block := A.block, off := A.off + (4 + 1) } = some (.int .i64 act.w.b) ∧ w11.cell? { block := A.block, off := A.off + (5 + 1) } = some (.string act.w.text) ∧ w11.cell? { block := A.block, off := A.off + (6 + 1) } = some (.int .i64 act.w.man) ∧ w11.cell? { block := A.block, off := A.off + (7 + 1) } = some (.int .i64 act.w.exp) ∧ w11.cell? { block := A.block, off := A.off + (8 + 1) } = some (.slice ra act.roots.length rc) ∧ w11.cell? { block := A.block, off := A.off + (9 + 1) } = some (.bool act.near)) := Lib.hid (by obtain ⟨d0, d1, d2, d3, d4, d5, d6, d7, d8, d9, d10⟩ := HS.out; exact ⟨hx.cell d0, hx.cell d1, hx.cell d2, hx.cell d3, hx.cell d4, hx.cell d5, hx.cell d6, hx.cell d7, hx.cell d8, hx.cell d9, hx.cell d10⟩)
        have HJw11 := Lib.hid (HJw10.out.ext O hx)
        have HEw11 : Hid (Ext w w11) := Lib.hid (HEw10.out.trans hx)
        have Hap : Hid (y.roots ≠ [] → ∀ k, (Value.slice ra2 y.roots.length rc2).ownBlock = some k → (¬ P k ∧ ¬ r.fp k) ∧ (k < base ∨ w10.heap.size ≤ k) ∧ k < w11.heap.size) := Lib.hid (by
          intro hn k hk
          have hlt := hrd.lt hn hk
          rcases hsrc with ⟨e1, e⟩ | h5
          · subst e1
            have hk' : (Value.slice ra2 act.roots.length rc).ownBlock = some k := by
              cases ra2 with
              | none => simp [Value.ownBlock] at hk
              | some a2 => simpa [Value.ownBlock] using hk
            have h1 := Hrr.out.lt (by rw [← e]; exact hn) hk'
            have h2 := Hwb.out
            exact ⟨⟨fun hf => by have := O.low HJw10.out.st k hf; omega, fun hf => by have := HJw10.out.ref.base_ k hf; omega⟩, .inl (by omega), hlt⟩
          · cases ra2 with
            | none => simp [Value.ownBlock] at hk
            | some a2 =>
              have e2 : a2.block = k := by simpa [Value.ownBlock] using hk
              have h2 := h5 a2 rfl
              exact ⟨⟨fun hf => by have := O.lt HJw10.out.st k hf; omega, fun hf => by have := HJw10.out.ref.fp_lt k hf; omega⟩, .inr (by omega), hlt⟩)
        clear hrd hsrc hx HFX hy HJw10 HEw10
        unfold Ac.cells
        gi_wp2
        refine And.intro (.inr HS.out) ?_
        refine anyS_only 6 rfl (by kernel_rfl) ?_
        gi_wp2
        obtain ⟨w12, hw12⟩ : ∃ W, w11.alloc (.cells #[.int .i64 0, .int .i64 0, .int .i64 0, .int .i64 0, .int .i64 0, .int .i64 0, .string ⟨#[]⟩, .int .i64 0, .int .i64 0, .slice none 0 0, .bool false] 35) = W := ⟨_, rfl⟩
        have hx : Ext w11 w12 := by rw [← hw12]; exact (Ext.refl _).alloc _
        obtain ⟨bx, hbx⟩ : ∃ bx, w11.heap.size = bx := ⟨_, rfl⟩
        have HBXw12 : Hid (Blk w12 bx #[.int .i64 0, .int .i64 0, .int .i64 0, .int .i64 0, .int .i64 0, .int .i64 0, .string ⟨#[]⟩, .int .i64 0, .int .i64 0, .slice none 0 0, .bool false] 35) := Lib.hid (by rw [← hw12, ← hbx]; exact Blk.new _ _ _)
        rw [hw12]
        try rw [hbx]
        have Hbl : Hid (base ≤ bx ∧ ¬ P bx ∧ ¬ r.fp bx) := Lib.hid (by
          rw [← hbx]
          exact ⟨HJw11.out.ref.base_le, fun hp => Nat.lt_irrefl _ (O.lt HJw11.out.st _ hp), fun hp => Nat.lt_irrefl _ (HJw11.out.ref.fp_lt _ hp)⟩)
        have HS : Hid (w12.cell? A = some (.int .i64 act.kind) ∧ w12.cell? { block := A.block, off := A.off + (0 + 1) } = some (.int .i64 act.a) ∧ w12.cell? { block := A.block, off := A.off + (1 + 1) } = some (.int .i64 act.b) ∧ w12.cell? { block := A.block, off := A.off + (2 + 1) } = some (.int .i64 act.w.tag) ∧ w12.cell? { block := A.block, off := A.off + (3 + 1) } = some (.int .i64 act.w.a) ∧ w12.cell? { block := A.block, off := A.off + (4 + 1) } = some (.int .i64 act.w.b) ∧ w12.cell? { block := A.block, off := A.off + (5 + 1) } = some (.string act.w.text) ∧ w12.cell? { block := A.block, off := A.off + (6 + 1) } = some (.int .i64 act.w.man) ∧ w12.cell? { block := A.block, off := A.off + (7 + 1) } = some (.int .i64 act.w.exp) ∧ w12.cell? { block := A.block, off := A.off + (8 + 1) } = some (.slice ra act.roots.length rc) ∧ w12.cell? { block := A.block, off := A.off + (9 + 1) } = some (.bool act.near)) := Lib.hid (by obtain ⟨d0, d1, d2, d3, d4, d5, d6, d7, d8, d9, d10⟩ := HS.out; exact ⟨hx.cell d0, hx.cell d1, hx.cell d2, hx.cell d3, hx.cell d4, hx.cell d5, hx.cell d6, hx.cell d7, hx.cell d8, hx.cell d9, hx.cell d10⟩)
        have HJw12 := Lib.hid (HJw11.out.ext O hx)
        have HEw12 : Hid (Ext w w12) := Lib.hid (HEw11.out.trans hx)
        have HRDw12 := Lib.hid (HRDw11.out.ext hx)
        have Hne : Hid (y.roots ≠ [] → ∀ k, (Value.slice ra2 y.roots.length rc2).ownBlock = some k → k ≠ bx) := Lib.hid fun hn k hk e => by have h1 := (Hap.out hn k hk).2.2; omega
        clear hx hw12 hbx HJw11 HEw11
        refine And.intro (.inr HS.out) ?_
        have z0 : w12.cell? ⟨bx, 0, none⟩ = some (.int .i64 0) := (HBXw12.out.cell 0).trans rfl
        have y0 := HBXw12.out.frozen 0
        have z1 : w12.cell? ⟨bx, 1, none⟩ = some (.int .i64 0) := (HBXw12.out.cell 1).trans rfl
        have y1 := HBXw12.out.frozen 1
        have z2 : w12.cell? ⟨bx, 2, none⟩ = some (.int .i64 0) := (HBXw12.out.cell 2).trans rfl
        have y2 := HBXw12.out.frozen 2
        have z3 : w12.cell? ⟨bx, 3, none⟩ = some (.int .i64 0) := (HBXw12.out.cell 3).trans rfl
        have y3 := HBXw12.out.frozen 3
        have z4 : w12.cell? ⟨bx, 4, none⟩ = some (.int .i64 0) := (HBXw12.out.cell 4).trans rfl
        have y4 := HBXw12.out.frozen 4
        have z5 : w12.cell? ⟨bx, 5, none⟩ = some (.int .i64 0) := (HBXw12.out.cell 5).trans rfl
        have y5 := HBXw12.out.frozen 5
        have z6 : w12.cell? ⟨bx, 6, none⟩ = some (.string ⟨#[]⟩) := (HBXw12.out.cell 6).trans rfl
        have y6 := HBXw12.out.frozen 6
        have z7 : w12.cell? ⟨bx, 7, none⟩ = some (.int .i64 0) := (HBXw12.out.cell 7).trans rfl
        have y7 := HBXw12.out.frozen 7
        have z8 : w12.cell? ⟨bx, 8, none⟩ = some (.int .i64 0) := (HBXw12.out.cell 8).trans rfl
        have y8 := HBXw12.out.frozen 8
        have z9 : w12.cell? ⟨bx, 9, none⟩ = some (.slice none 0 0) := (HBXw12.out.cell 9).trans rfl
        have y9 := HBXw12.out.frozen 9
        have z10 : w12.cell? ⟨bx, 10, none⟩ = some (.bool false) := (HBXw12.out.cell 10).trans rfl
        have y10 := HBXw12.out.frozen 10
        refine anyS_only 7 rfl (by kernel_rfl) ?_
        gi_wp2
        refine anyS_done (by kernel_rfl) ?_ _
        obtain ⟨hb11, hk11⟩ := set11 HBXw12.out (.int .i64 y.kind) (.int .i64 y.a) (.int .i64 y.b) (.int .i64 y.w.tag) (.int .i64 y.w.a) (.int .i64 y.w.b) (.string y.w.text) (.int .i64 y.w.man) (.int .i64 y.w.exp) (.slice ra2 y.roots.length rc2) (.bool y.near)
        have HJ13 := Lib.hid (HJw12.out.kept O hk11 (fun k e => by have := Hbl.out; omega) (fun k hk e => Hbl.out.2.1 (e ▸ hk)) (fun k hk e => Hbl.out.2.2 (e ▸ hk)))
        have HB13 := Lib.hid hb11
        have HR13 := Lib.hid (HRDw12.out.kept2 hk11 fun hn k hk e => Hne.out hn k hk e)
        have HE13 : Hid (Ext w _) := Lib.hid (HEw12.out.trans' hk11 fun k hk e => by have h1 := Hbl.out.1; have h2 := Hwb.out; omega)
        clear hb11 hk11 z0 y0 z1 y1 z2 y2 z3 y3 z4 y4 z5 y5 z6 y6 z7 y7 z8 y8 z9 y9 z10 y10
        generalize (((((((((((w12.setCell ⟨bx, 0, none⟩ (.int .i64 y.kind)).setCell ⟨bx, 1, none⟩ (.int .i64 y.a)).setCell ⟨bx, 2, none⟩ (.int .i64 y.b)).setCell ⟨bx, 3, none⟩ (.int .i64 y.w.tag)).setCell ⟨bx, 4, none⟩ (.int .i64 y.w.a)).setCell ⟨bx, 5, none⟩ (.int .i64 y.w.b)).setCell ⟨bx, 6, none⟩ (.string y.w.text)).setCell ⟨bx, 7, none⟩ (.int .i64 y.w.man)).setCell ⟨bx, 8, none⟩ (.int .i64 y.w.exp)).setCell ⟨bx, 9, none⟩ (.slice ra2 y.roots.length rc2)).setCell ⟨bx, 10, none⟩ (.bool y.near)) = w13 at HJ13 HB13 HR13 HE13 ⊢
        have c0 : w13.cell? ⟨bx, 0, none⟩ = some (.int .i64 y.kind) := (HB13.out.cell 0).trans rfl
        have c1 : w13.cell? ⟨bx, 1, none⟩ = some (.int .i64 y.a) := (HB13.out.cell 1).trans rfl
        have c2 : w13.cell? ⟨bx, 2, none⟩ = some (.int .i64 y.b) := (HB13.out.cell 2).trans rfl
        have c3 : w13.cell? ⟨bx, 3, none⟩ = some (.int .i64 y.w.tag) := (HB13.out.cell 3).trans rfl
        have c4 : w13.cell? ⟨bx, 4, none⟩ = some (.int .i64 y.w.a) := (HB13.out.cell 4).trans rfl
        have c5 : w13.cell? ⟨bx, 5, none⟩ = some (.int .i64 y.w.b) := (HB13.out.cell 5).trans rfl
        have c6 : w13.cell? ⟨bx, 6, none⟩ = some (.string y.w.text) := (HB13.out.cell 6).trans rfl
        have c7 : w13.cell? ⟨bx, 7, none⟩ = some (.int .i64 y.w.man) := (HB13.out.cell 7).trans rfl
        have c8 : w13.cell? ⟨bx, 8, none⟩ = some (.int .i64 y.w.exp) := (HB13.out.cell 8).trans rfl
        have c9 : w13.cell? ⟨bx, 9, none⟩ = some (.slice ra2 y.roots.length rc2) := (HB13.out.cell 9).trans rfl
        have c10 : w13.cell? ⟨bx, 10, none⟩ = some (.bool y.near) := (HB13.out.cell 10).trans rfl
        have hj' : Joint base St r.rp w13 h P r := by rw [HJ13.out.rp_]; exact HJ13.out
        have HD0 := did_any O hj' y HR13.out (fun hn k hk => (Hap.out hn k hk).1) Hyl.out
        rw [HJ13.out.rp_] at HD0
        unfold Ac.box at HD0
        have HD := Lib.hid HD0
        clear hj' HD0
        go_wp2_with fail
        refine HD.out.mono ?_
        rintro e w14 ⟨rfl, h', P', r', hJ, hK⟩
        have HJ14 := Lib.hid hJ
        have HE14 : Hid (Ext w w14) := Lib.hid (HE13.out.trans' hK fun k hk e => by
          have h2 := Hwb.out
          rcases e with e | e
          · have := O.low HJ13.out.st k e; omega
          · have := HJ13.out.ref.base_ k e; omega)
        have hj' : Joint base St r'.rp w14 h' P' r' := by rw [hJ.rp_]; exact hJ
        have HA0 := alike_any O hj'
        rw [hJ.rp_] at HA0
        have HA := Lib.hid HA0
        clear hj' HA0 hJ hK HD c0 c1 c2 c3 c4 c5 c6 c7 c8 c9 c10
        go_wp2_with fail
        refine HA.out.mono ?_
        rintro e w15 ⟨rfl, hx15⟩
        have HJ15 := Lib.hid (HJ14.out.ext O hx15)
        have HE15 : Hid (Ext w w15) := Lib.hid (HE14.out.trans hx15)
        clear hx15 HA HJ14 HE14
        go_wp2_with fail
        exact ⟨⟨k + 1, h', P', r', hlt, by simp, HJ15, HE15⟩, by simp only [intOf]; omega⟩
      · gi_wp2
        obtain ⟨w11, hw11⟩ : ∃ W, w10.alloc (.cells #[.int .i64 0, .int .i64 0, .int .i64 0, .int .i64 0, .int .i64 0, .int .i64 0, .string ⟨#[]⟩, .int .i64 0, .int .i64 0, .slice none 0 0, .bool false] 35) = W := ⟨_, rfl⟩
        have hx : Ext w10 w11 := by rw [← hw11]; exact (Ext.refl _).alloc _
        obtain ⟨bx, hbx⟩ : ∃ bx, w10.heap.size = bx := ⟨_, rfl⟩
        have HBXw11 : Hid (Blk w11 bx #[.int .i64 0, .int .i64 0, .int .i64 0, .int .i64 0, .int .i64 0, .int .i64 0, .string ⟨#[]⟩, .int .i64 0, .int .i64 0, .slice none 0 0, .bool false] 35) := Lib.hid (by rw [← hw11, ← hbx]; exact Blk.new _ _ _)
        rw [hw11]
        try rw [hbx]
        have Hbl : Hid (base ≤ bx ∧ ¬ P bx ∧ ¬ r.fp bx) := Lib.hid (by
          rw [← hbx]
          exact ⟨HJw10.out.ref.base_le, fun hp => Nat.lt_irrefl _ (O.lt HJw10.out.st _ hp), fun hp => Nat.lt_irrefl _ (HJw10.out.ref.fp_lt _ hp)⟩)
        have HS : Hid (w11.cell? A = some (.int .i64 act.kind) ∧ w11.cell? { block := A.block, off := A.off + (0 + 1) } = some (.int .i64 act.a) ∧ w11.cell? { block := A.block, off := A.off + (1 + 1) } = some (.int .i64 act.b) ∧ w11.cell? { block := A.block, off := A.off + (2 + 1) } = some (.int .i64 act.w.tag) ∧ w11.cell? { block := A.block, off := A.off + (3 + 1) } = some (.int .i64 act.w.a) ∧ w11.cell? { block := A.block, off := A.off + (4 + 1) } = some (.int .i64 act.w.b) ∧ w11.cell? { block := A.block, off := A.off + (5 + 1) } = some (.string act.w.text) ∧ w11.cell? { block := A.block, off := A.off + (6 + 1) } = some (.int .i64 act.w.man) ∧ w11.cell? { block := A.block, off := A.off + (7 + 1) } = some (.int .i64 act.w.exp) ∧ w11.cell? { block := A.block, off := A.off + (8 + 1) } = some (.slice ra act.roots.length rc) ∧ w11.cell? { block := A.block, off := A.off + (9 + 1) } = some (.bool act.near)) := Lib.hid (by obtain ⟨d0, d1, d2, d3, d4, d5, d6, d7, d8, d9, d10⟩ := HS.out; exact ⟨hx.cell d0, hx.cell d1, hx.cell d2, hx.cell d3, hx.cell d4, hx.cell d5, hx.cell d6, hx.cell d7, hx.cell d8, hx.cell d9, hx.cell d10⟩)
        have HJw11 := Lib.hid (HJw10.out.ext O hx)
        have HEw11 : Hid (Ext w w11) := Lib.hid (HEw10.out.trans hx)
        have HOBw11 := Lib.hid (HOBw10.out.ext hx)
        clear hx hw11 hbx HJw10 HEw10
        refine And.intro (.inr HS.out) ?_
        refine anyS_only 5 rfl (by kernel_rfl) ?_
        have HFX := Lib.hid (fixed_any HOBw11.out Hall.out act ra rc (Hrr.out.ext HEw11.out) hrl)
        gi_wp2_with fail
        refine (callsIn_WF HFX.out).mono ?_
        rintro e w12 ⟨ra2, rc2, rfl, hrd, hsrc, hx⟩
        obtain ⟨y, hy⟩ : ∃ y, fixedA h.all act = y := ⟨_, rfl⟩
        rw [hy] at hrd hsrc ⊢
        have HRDw12 := Lib.hid hrd
        have Hyl : Hid (y.roots.length ≤ 1048576) := Lib.hid (by rw [← hy]; exact fixedA_len hrl)
        have HS : Hid (w12.cell? A = some (.int .i64 act.kind) ∧ w12.cell? { block := A.block, off := A.off + (0 + 1) } = some (.int .i64 act.a) ∧ w12.cell? { block := A.block, off := A.off + (1 + 1) } = some (.int .i64 act.b) ∧ w12.cell? { block := A.block, off := A.off + (2 + 1) } = some (.int .i64 act.w.tag) ∧ w12.cell? { block := A.block, off := A.off + (3 + 1) } = some (.int .i64 act.w.a) ∧ w12.cell? { block := A.block, off := A.off + (4 + 1) } = some (.int .i64 act.w.b) ∧ w12.cell? { block := A.block, off := A.off + (5 + 1) } = some (.string act.w.text) ∧ w12.cell? { block := A.block, off := A.off + (6 + 1) } = some (.int .i64 act.w.man) ∧ w12.cell? { block := A.block, off := A.off + (7 + 1) } = some (.int .i64 act.w.exp) ∧ w12.cell? { block := A.block, off := A.off + (8 + 1) } = some (.slice ra act.roots.length rc) ∧ w12.cell? { block := A.block, off := A.off + (9 + 1) } = some (.bool act.near)) := Lib.hid (by obtain ⟨d0, d1, d2, d3, d4, d5, d6, d7, d8, d9, d10⟩ := HS.out; exact ⟨hx.cell d0, hx.cell d1, hx.cell d2, hx.cell d3, hx.cell d4, hx.cell d5, hx.cell d6, hx.cell d7, hx.cell d8, hx.cell d9, hx.cell d10⟩)
        have HJw12 := Lib.hid (HJw11.out.ext O hx)
        have HEw12 : Hid (Ext w w12) := Lib.hid (HEw11.out.trans hx)
        have Hap : Hid (y.roots ≠ [] → ∀ k, (Value.slice ra2 y.roots.length rc2).ownBlock = some k → (¬ P k ∧ ¬ r.fp k) ∧ (k < base ∨ w11.heap.size ≤ k) ∧ k < w12.heap.size) := Lib.hid (by
          intro hn k hk
          have hlt := hrd.lt hn hk
          rcases hsrc with ⟨e1, e⟩ | h5
          · subst e1
            have hk' : (Value.slice ra2 act.roots.length rc).ownBlock = some k := by
              cases ra2 with
              | none => simp [Value.ownBlock] at hk
              | some a2 => simpa [Value.ownBlock] using hk
            have h1 := Hrr.out.lt (by rw [← e]; exact hn) hk'
            have h2 := Hwb.out
            exact ⟨⟨fun hf => by have := O.low HJw11.out.st k hf; omega, fun hf => by have := HJw11.out.ref.base_ k hf; omega⟩, .inl (by omega), hlt⟩
          · cases ra2 with
            | none => simp [Value.ownBlock] at hk
            | some a2 =>
              have e2 : a2.block = k := by simpa [Value.ownBlock] using hk
              have h2 := h5 a2 rfl
              exact ⟨⟨fun hf => by have := O.lt HJw11.out.st k hf; omega, fun hf => by have := HJw11.out.ref.fp_lt k hf; omega⟩, .inr (by omega), hlt⟩)
        have HBXw12 := Lib.hid (hx.blk HBXw11.out id)
        have Hne : Hid (y.roots ≠ [] → ∀ k, (Value.slice ra2 y.roots.length rc2).ownBlock = some k → k ≠ bx) := Lib.hid fun hn k hk e => by have h1 := (Hap.out hn k hk).2.1; have h2 := HBXw11.out.lt; have h3 := Hbl.out; omega
        clear hrd hsrc hx HFX hy HJw11 HEw11
        unfold Ac.cells
        gi_wp2
        refine And.intro (.inr HS.out) ?_
        have z0 : w12.cell? ⟨bx, 0, none⟩ = some (.int .i64 0) := (HBXw12.out.cell 0).trans rfl
        have y0 := HBXw12.out.frozen 0
        have z1 : w12.cell? ⟨bx, 1, none⟩ = some (.int .i64 0) := (HBXw12.out.cell 1).trans rfl
        have y1 := HBXw12.out.frozen 1
        have z2 : w12.cell? ⟨bx, 2, none⟩ = some (.int .i64 0) := (HBXw12.out.cell 2).trans rfl
        have y2 := HBXw12.out.frozen 2
        have z3 : w12.cell? ⟨bx, 3, none⟩ = some (.int .i64 0) := (HBXw12.out.cell 3).trans rfl
        have y3 := HBXw12.out.frozen 3
        have z4 : w12.cell? ⟨bx, 4, none⟩ = some (.int .i64 0) := (HBXw12.out.cell 4).trans rfl
        have y4 := HBXw12.out.frozen 4
        have z5 : w12.cell? ⟨bx, 5, none⟩ = some (.int .i64 0) := (HBXw12.out.cell 5).trans rfl
        have y5 := HBXw12.out.frozen 5
        have z6 : w12.cell? ⟨bx, 6, none⟩ = some (.string ⟨#[]⟩) := (HBXw12.out.cell 6).trans rfl
        have y6 := HBXw12.out.frozen 6
        have z7 : w12.cell? ⟨bx, 7, none⟩ = some (.int .i64 0) := (HBXw12.out.cell 7).trans rfl
        have y7 := HBXw12.out.frozen 7
        have z8 : w12.cell? ⟨bx, 8, none⟩ = some (.int .i64 0) := (HBXw12.out.cell 8).trans rfl
        have y8 := HBXw12.out.frozen 8
        have z9 : w12.cell? ⟨bx, 9, none⟩ = some (.slice none 0 0) := (HBXw12.out.cell 9).trans rfl
        have y9 := HBXw12.out.frozen 9
        have z10 : w12.cell? ⟨bx, 10, none⟩ = some (.bool false) := (HBXw12.out.cell 10).trans rfl
        have y10 := HBXw12.out.frozen 10
        refine anyS_only 7 rfl (by kernel_rfl) ?_
        gi_wp2
        refine anyS_done (by kernel_rfl) ?_ _
        obtain ⟨hb11, hk11⟩ := set11 HBXw12.out (.int .i64 y.kind) (.int .i64 y.a) (.int .i64 y.b) (.int .i64 y.w.tag) (.int .i64 y.w.a) (.int .i64 y.w.b) (.string y.w.text) (.int .i64 y.w.man) (.int .i64 y.w.exp) (.slice ra2 y.roots.length rc2) (.bool y.near)
        have HJ13 := Lib.hid (HJw12.out.kept O hk11 (fun k e => by have := Hbl.out; omega) (fun k hk e => Hbl.out.2.1 (e ▸ hk)) (fun k hk e => Hbl.out.2.2 (e ▸ hk)))
        have HB13 := Lib.hid hb11
        have HR13 := Lib.hid (HRDw12.out.kept2 hk11 fun hn k hk e => Hne.out hn k hk e)
        have HE13 : Hid (Ext w _) := Lib.hid (HEw12.out.trans' hk11 fun k hk e => by have h1 := Hbl.out.1; have h2 := Hwb.out; omega)
        clear hb11 hk11 z0 y0 z1 y1 z2 y2 z3 y3 z4 y4 z5 y5 z6 y6 z7 y7 z8 y8 z9 y9 z10 y10
        generalize (((((((((((w12.setCell ⟨bx, 0, none⟩ (.int .i64 y.kind)).setCell ⟨bx, 1, none⟩ (.int .i64 y.a)).setCell ⟨bx, 2, none⟩ (.int .i64 y.b)).setCell ⟨bx, 3, none⟩ (.int .i64 y.w.tag)).setCell ⟨bx, 4, none⟩ (.int .i64 y.w.a)).setCell ⟨bx, 5, none⟩ (.int .i64 y.w.b)).setCell ⟨bx, 6, none⟩ (.string y.w.text)).setCell ⟨bx, 7, none⟩ (.int .i64 y.w.man)).setCell ⟨bx, 8, none⟩ (.int .i64 y.w.exp)).setCell ⟨bx, 9, none⟩ (.slice ra2 y.roots.length rc2)).setCell ⟨bx, 10, none⟩ (.bool y.near)) = w13 at HJ13 HB13 HR13 HE13 ⊢
        have c0 : w13.cell? ⟨bx, 0, none⟩ = some (.int .i64 y.kind) := (HB13.out.cell 0).trans rfl
        have c1 : w13.cell? ⟨bx, 1, none⟩ = some (.int .i64 y.a) := (HB13.out.cell 1).trans rfl
        have c2 : w13.cell? ⟨bx, 2, none⟩ = some (.int .i64 y.b) := (HB13.out.cell 2).trans rfl
        have c3 : w13.cell? ⟨bx, 3, none⟩ = some (.int .i64 y.w.tag) := (HB13.out.cell 3).trans rfl
        have c4 : w13.cell? ⟨bx, 4, none⟩ = some (.int .i64 y.w.a) := (HB13.out.cell 4).trans rfl
        have c5 : w13.cell? ⟨bx, 5, none⟩ = some (.int .i64 y.w.b) := (HB13.out.cell 5).trans rfl
        have c6 : w13.cell? ⟨bx, 6, none⟩ = some (.string y.w.text) := (HB13.out.cell 6).trans rfl
        have c7 : w13.cell? ⟨bx, 7, none⟩ = some (.int .i64 y.w.man) := (HB13.out.cell 7).trans rfl
        have c8 : w13.cell? ⟨bx, 8, none⟩ = some (.int .i64 y.w.exp) := (HB13.out.cell 8).trans rfl
        have c9 : w13.cell? ⟨bx, 9, none⟩ = some (.slice ra2 y.roots.length rc2) := (HB13.out.cell 9).trans rfl
        have c10 : w13.cell? ⟨bx, 10, none⟩ = some (.bool y.near) := (HB13.out.cell 10).trans rfl
        have hj' : Joint base St r.rp w13 h P r := by rw [HJ13.out.rp_]; exact HJ13.out
        have HD0 := did_any O hj' y HR13.out (fun hn k hk => (Hap.out hn k hk).1) Hyl.out
        rw [HJ13.out.rp_] at HD0
        unfold Ac.box at HD0
        have HD := Lib.hid HD0
        clear hj' HD0
        go_wp2_with fail
        refine HD.out.mono ?_
        rintro e w14 ⟨rfl, h', P', r', hJ, hK⟩
        have HJ14 := Lib.hid hJ
        have HE14 : Hid (Ext w w14) := Lib.hid (HE13.out.trans' hK fun k hk e => by
          have h2 := Hwb.out
          rcases e with e | e
          · have := O.low HJ13.out.st k e; omega
          · have := HJ13.out.ref.base_ k e; omega)
        have hj' : Joint base St r'.rp w14 h' P' r' := by rw [hJ.rp_]; exact hJ
        have HA0 := alike_any O hj'
        rw [hJ.rp_] at HA0
        have HA := Lib.hid HA0
        clear hj' HA0 hJ hK HD c0 c1 c2 c3 c4 c5 c6 c7 c8 c9 c10
        go_wp2_with fail
        refine HA.out.mono ?_
        rintro e w15 ⟨rfl, hx15⟩
        have HJ15 := Lib.hid (HJ14.out.ext O hx15)
        have HE15 : Hid (Ext w w15) := Lib.hid (HE14.out.trans hx15)
        clear hx15 HA HJ14 HE14
        go_wp2_with fail
        exact ⟨⟨k + 1, h', P', r', hlt, by simp, HJ15, HE15⟩, by simp only [intOf]; omega⟩
    · gi_wp2
      obtain ⟨w10, hw10⟩ : ∃ W, w9.alloc (.cells #[.int .i64 0, .int .i64 0, .int .i64 0, .int .i64 0, .int .i64 0, .int .i64 0, .string ⟨#[]⟩, .int .i64 0, .int .i64 0, .slice none 0 0, .bool false] 35) = W := ⟨_, rfl⟩
      have hx : Ext w9 w10 := by rw [← hw10]; exact (Ext.refl _).alloc _
      obtain ⟨bx, hbx⟩ : ∃ bx, w9.heap.size = bx := ⟨_, rfl⟩
      have HBXw10 : Hid (Blk w10 bx #[.int .i64 0, .int .i64 0, .int .i64 0, .int .i64 0, .int .i64 0, .int .i64 0, .string ⟨#[]⟩, .int .i64 0, .int .i64 0, .slice none 0 0, .bool false] 35) := Lib.hid (by rw [← hw10, ← hbx]; exact Blk.new _ _ _)
      rw [hw10]
      try rw [hbx]
      have Hbl : Hid (base ≤ bx ∧ ¬ P bx ∧ ¬ r.fp bx) := Lib.hid (by
        rw [← hbx]
        exact ⟨HJw9.out.ref.base_le, fun hp => Nat.lt_irrefl _ (O.lt HJw9.out.st _ hp), fun hp => Nat.lt_irrefl _ (HJw9.out.ref.fp_lt _ hp)⟩)
      have HS : Hid (w10.cell? A = some (.int .i64 act.kind) ∧ w10.cell? { block := A.block, off := A.off + (0 + 1) } = some (.int .i64 act.a) ∧ w10.cell? { block := A.block, off := A.off + (1 + 1) } = some (.int .i64 act.b) ∧ w10.cell? { block := A.block, off := A.off + (2 + 1) } = some (.int .i64 act.w.tag) ∧ w10.cell? { block := A.block, off := A.off + (3 + 1) } = some (.int .i64 act.w.a) ∧ w10.cell? { block := A.block, off := A.off + (4 + 1) } = some (.int .i64 act.w.b) ∧ w10.cell? { block := A.block, off := A.off + (5 + 1) } = some (.string act.w.text) ∧ w10.cell? { block := A.block, off := A.off + (6 + 1) } = some (.int .i64 act.w.man) ∧ w10.cell? { block := A.block, off := A.off + (7 + 1) } = some (.int .i64 act.w.exp) ∧ w10.cell? { block := A.block, off := A.off + (8 + 1) } = some (.slice ra act.roots.length rc) ∧ w10.cell? { block := A.block, off := A.off + (9 + 1) } = some (.bool act.near)) := Lib.hid (by obtain ⟨d0, d1, d2, d3, d4, d5, d6, d7, d8, d9, d10⟩ := HS.out; exact ⟨hx.cell d0, hx.cell d1, hx.cell d2, hx.cell d3, hx.cell d4, hx.cell d5, hx.cell d6, hx.cell d7, hx.cell d8, hx.cell d9, hx.cell d10⟩)
      have HJw10 := Lib.hid (HJw9.out.ext O hx)
      have HEw10 : Hid (Ext w w10) := Lib.hid (HEw9.out.trans hx)
      clear hx hw10 hbx HJw9 HEw9
      refine And.intro (.inr HS.out) ?_
      refine anyS_only 0 rfl (by kernel_rfl) ?_
      have HCB := Lib.hid (RBlocks_any HJw10.out.ref)
      rw [HJw10.out.rp_] at HCB
      gi_wp2_with fail
      refine (callsIn_WF HCB.out).mono ?_
      rintro e w11 ⟨bv, rfl, hrow, hx⟩
      have HJw11 := Lib.hid (HJw10.out.ext O hx)
      have HEw11 : Hid (Ext w w11) := Lib.hid (HEw10.out.trans hx)
      have hrb := rdB_of_rowR hrow HJw11.out.ref.wo
      rw [← RH.log_all, ← HJw11.out.cpl.all] at hrb
      have HOBw11 := Lib.hid hrb
      have HS : Hid (w11.cell? A = some (.int .i64 act.kind) ∧ w11.cell? { block := A.block, off := A.off + (0 + 1) } = some (.int .i64 act.a) ∧ w11.cell? { block := A.block, off := A.off + (1 + 1) } = some (.int .i64 act.b) ∧ w11.cell? { block := A.block, off := A.off + (2 + 1) } = some (.int .i64 act.w.tag) ∧ w11.cell? { block := A.block, off := A.off + (3 + 1) } = some (.int .i64 act.w.a) ∧ w11.cell? { block := A.block, off := A.off + (4 + 1) } = some (.int .i64 act.w.b) ∧ w11.cell? { block := A.block, off := A.off + (5 + 1) } = some (.string act.w.text) ∧ w11.cell? { block := A.block, off := A.off + (6 + 1) } = some (.int .i64 act.w.man) ∧ w11.cell? { block := A.block, off := A.off + (7 + 1) } = some (.int .i64 act.w.exp) ∧ w11.cell? { block := A.block, off := A.off + (8 + 1) } = some (.slice ra act.roots.length rc) ∧ w11.cell? { block := A.block, off := A.off + (9 + 1) } = some (.bool act.near)) := Lib.hid (by obtain ⟨d0, d1, d2, d3, d4, d5, d6, d7, d8, d9, d10⟩ := HS.out; exact ⟨hx.cell d0, hx.cell d1, hx.cell d2, hx.cell d3, hx.cell d4, hx.cell d5, hx.cell d6, hx.cell d7, hx.cell d8, hx.cell d9, hx.cell d10⟩)
      have HBXw11 := Lib.hid (hx.blk HBXw10.out id)
      clear hrow hx hrb HCB HJw10 HEw10
      gi_wp2
      refine And.intro (.inr HS.out) ?_
      refine anyS_only 5 rfl (by kernel_rfl) ?_
      have HFX := Lib.hid (fixed_any HOBw11.out Hall.out act ra rc (Hrr.out.ext HEw11.out) hrl)
      gi_wp2_with fail
      refine (callsIn_WF HFX.out).mono ?_
      rintro e w12 ⟨ra2, rc2, rfl, hrd, hsrc, hx⟩
      obtain ⟨y, hy⟩ : ∃ y, fixedA h.all act = y := ⟨_, rfl⟩
      rw [hy] at hrd hsrc ⊢
      have HRDw12 := Lib.hid hrd
      have Hyl : Hid (y.roots.length ≤ 1048576) := Lib.hid (by rw [← hy]; exact fixedA_len hrl)
      have HS : Hid (w12.cell? A = some (.int .i64 act.kind) ∧ w12.cell? { block := A.block, off := A.off + (0 + 1) } = some (.int .i64 act.a) ∧ w12.cell? { block := A.block, off := A.off + (1 + 1) } = some (.int .i64 act.b) ∧ w12.cell? { block := A.block, off := A.off + (2 + 1) } = some (.int .i64 act.w.tag) ∧ w12.cell? { block := A.block, off := A.off + (3 + 1) } = some (.int .i64 act.w.a) ∧ w12.cell? { block := A.block, off := A.off + (4 + 1) } = some (.int .i64 act.w.b) ∧ w12.cell? { block := A.block, off := A.off + (5 + 1) } = some (.string act.w.text) ∧ w12.cell? { block := A.block, off := A.off + (6 + 1) } = some (.int .i64 act.w.man) ∧ w12.cell? { block := A.block, off := A.off + (7 + 1) } = some (.int .i64 act.w.exp) ∧ w12.cell? { block := A.block, off := A.off + (8 + 1) } = some (.slice ra act.roots.length rc) ∧ w12.cell? { block := A.block, off := A.off + (9 + 1) } = some (.bool act.near)) := Lib.hid (by obtain ⟨d0, d1, d2, d3, d4, d5, d6, d7, d8, d9, d10⟩ := HS.out; exact ⟨hx.cell d0, hx.cell d1, hx.cell d2, hx.cell d3, hx.cell d4, hx.cell d5, hx.cell d6, hx.cell d7, hx.cell d8, hx.cell d9, hx.cell d10⟩)
      have HJw12 := Lib.hid (HJw11.out.ext O hx)
      have HEw12 : Hid (Ext w w12) := Lib.hid (HEw11.out.trans hx)
      have Hap : Hid (y.roots ≠ [] → ∀ k, (Value.slice ra2 y.roots.length rc2).ownBlock = some k → (¬ P k ∧ ¬ r.fp k) ∧ (k < base ∨ w11.heap.size ≤ k) ∧ k < w12.heap.size) := Lib.hid (by
        intro hn k hk
        have hlt := hrd.lt hn hk
        rcases hsrc with ⟨e1, e⟩ | h5
        · subst e1
          have hk' : (Value.slice ra2 act.roots.length rc).ownBlock = some k := by
            cases ra2 with
            | none => simp [Value.ownBlock] at hk
            | some a2 => simpa [Value.ownBlock] using hk
          have h1 := Hrr.out.lt (by rw [← e]; exact hn) hk'
          have h2 := Hwb.out
          exact ⟨⟨fun hf => by have := O.low HJw11.out.st k hf; omega, fun hf => by have := HJw11.out.ref.base_ k hf; omega⟩, .inl (by omega), hlt⟩
        · cases ra2 with
          | none => simp [Value.ownBlock] at hk
          | some a2 =>
            have e2 : a2.block = k := by simpa [Value.ownBlock] using hk
            have h2 := h5 a2 rfl
            exact ⟨⟨fun hf => by have := O.lt HJw11.out.st k hf; omega, fun hf => by have := HJw11.out.ref.fp_lt k hf; omega⟩, .inr (by omega), hlt⟩)
      have HBXw12 := Lib.hid (hx.blk HBXw11.out id)
      have Hne : Hid (y.roots ≠ [] → ∀ k, (Value.slice ra2 y.roots.length rc2).ownBlock = some k → k ≠ bx) := Lib.hid fun hn k hk e => by have h1 := (Hap.out hn k hk).2.1; have h2 := HBXw11.out.lt; have h3 := Hbl.out; omega
      clear hrd hsrc hx HFX hy HJw11 HEw11
      unfold Ac.cells
      gi_wp2
      refine And.intro (.inr HS.out) ?_
      have z0 : w12.cell? ⟨bx, 0, none⟩ = some (.int .i64 0) := (HBXw12.out.cell 0).trans rfl
      have y0 := HBXw12.out.frozen 0
      have z1 : w12.cell? ⟨bx, 1, none⟩ = some (.int .i64 0) := (HBXw12.out.cell 1).trans rfl
      have y1 := HBXw12.out.frozen 1
      have z2 : w12.cell? ⟨bx, 2, none⟩ = some (.int .i64 0) := (HBXw12.out.cell 2).trans rfl
      have y2 := HBXw12.out.frozen 2
      have z3 : w12.cell? ⟨bx, 3, none⟩ = some (.int .i64 0) := (HBXw12.out.cell 3).trans rfl
      have y3 := HBXw12.out.frozen 3
      have z4 : w12.cell? ⟨bx, 4, none⟩ = some (.int .i64 0) := (HBXw12.out.cell 4).trans rfl
      have y4 := HBXw12.out.frozen 4
      have z5 : w12.cell? ⟨bx, 5, none⟩ = some (.int .i64 0) := (HBXw12.out.cell 5).trans rfl
      have y5 := HBXw12.out.frozen 5
      have z6 : w12.cell? ⟨bx, 6, none⟩ = some (.string ⟨#[]⟩) := (HBXw12.out.cell 6).trans rfl
      have y6 := HBXw12.out.frozen 6
      have z7 : w12.cell? ⟨bx, 7, none⟩ = some (.int .i64 0) := (HBXw12.out.cell 7).trans rfl
      have y7 := HBXw12.out.frozen 7
      have z8 : w12.cell? ⟨bx, 8, none⟩ = some (.int .i64 0) := (HBXw12.out.cell 8).trans rfl
      have y8 := HBXw12.out.frozen 8
      have z9 : w12.cell? ⟨bx, 9, none⟩ = some (.slice none 0 0) := (HBXw12.out.cell 9).trans rfl
      have y9 := HBXw12.out.frozen 9
      have z10 : w12.cell? ⟨bx, 10, none⟩ = some (.bool false) := (HBXw12.out.cell 10).trans rfl
      have y10 := HBXw12.out.frozen 10
      refine anyS_only 7 rfl (by kernel_rfl) ?_
      gi_wp2
      refine anyS_done (by kernel_rfl) ?_ _
      obtain ⟨hb11, hk11⟩ := set11 HBXw12.out (.int .i64 y.kind) (.int .i64 y.a) (.int .i64 y.b) (.int .i64 y.w.tag) (.int .i64 y.w.a) (.int .i64 y.w.b) (.string y.w.text) (.int .i64 y.w.man) (.int .i64 y.w.exp) (.slice ra2 y.roots.length rc2) (.bool y.near)
      have HJ13 := Lib.hid (HJw12.out.kept O hk11 (fun k e => by have := Hbl.out; omega) (fun k hk e => Hbl.out.2.1 (e ▸ hk)) (fun k hk e => Hbl.out.2.2 (e ▸ hk)))
      have HB13 := Lib.hid hb11
      have HR13 := Lib.hid (HRDw12.out.kept2 hk11 fun hn k hk e => Hne.out hn k hk e)
      have HE13 : Hid (Ext w _) := Lib.hid (HEw12.out.trans' hk11 fun k hk e => by have h1 := Hbl.out.1; have h2 := Hwb.out; omega)
      clear hb11 hk11 z0 y0 z1 y1 z2 y2 z3 y3 z4 y4 z5 y5 z6 y6 z7 y7 z8 y8 z9 y9 z10 y10
      generalize (((((((((((w12.setCell ⟨bx, 0, none⟩ (.int .i64 y.kind)).setCell ⟨bx, 1, none⟩ (.int .i64 y.a)).setCell ⟨bx, 2, none⟩ (.int .i64 y.b)).setCell ⟨bx, 3, none⟩ (.int .i64 y.w.tag)).setCell ⟨bx, 4, none⟩ (.int .i64 y.w.a)).setCell ⟨bx, 5, none⟩ (.int .i64 y.w.b)).setCell ⟨bx, 6, none⟩ (.string y.w.text)).setCell ⟨bx, 7, none⟩ (.int .i64 y.w.man)).setCell ⟨bx, 8, none⟩ (.int .i64 y.w.exp)).setCell ⟨bx, 9, none⟩ (.slice ra2 y.roots.length rc2)).setCell ⟨bx, 10, none⟩ (.bool y.near)) = w13 at HJ13 HB13 HR13 HE13 ⊢
      have c0 : w13.cell? ⟨bx, 0, none⟩ = some (.int .i64 y.kind) := (HB13.out.cell 0).trans rfl
      have c1 : w13.cell? ⟨bx, 1, none⟩ = some (.int .i64 y.a) := (HB13.out.cell 1).trans rfl
      have c2 : w13.cell? ⟨bx, 2, none⟩ = some (.int .i64 y.b) := (HB13.out.cell 2).trans rfl
      have c3 : w13.cell? ⟨bx, 3, none⟩ = some (.int .i64 y.w.tag) := (HB13.out.cell 3).trans rfl
      have c4 : w13.cell? ⟨bx, 4, none⟩ = some (.int .i64 y.w.a) := (HB13.out.cell 4).trans rfl
      have c5 : w13.cell? ⟨bx, 5, none⟩ = some (.int .i64 y.w.b) := (HB13.out.cell 5).trans rfl
      have c6 : w13.cell? ⟨bx, 6, none⟩ = some (.string y.w.text) := (HB13.out.cell 6).trans rfl
      have c7 : w13.cell? ⟨bx, 7, none⟩ = some (.int .i64 y.w.man) := (HB13.out.cell 7).trans rfl
      have c8 : w13.cell? ⟨bx, 8, none⟩ = some (.int .i64 y.w.exp) := (HB13.out.cell 8).trans rfl
      have c9 : w13.cell? ⟨bx, 9, none⟩ = some (.slice ra2 y.roots.length rc2) := (HB13.out.cell 9).trans rfl
      have c10 : w13.cell? ⟨bx, 10, none⟩ = some (.bool y.near) := (HB13.out.cell 10).trans rfl
      have hj' : Joint base St r.rp w13 h P r := by rw [HJ13.out.rp_]; exact HJ13.out
      have HD0 := did_any O hj' y HR13.out (fun hn k hk => (Hap.out hn k hk).1) Hyl.out
      rw [HJ13.out.rp_] at HD0
      unfold Ac.box at HD0
      have HD := Lib.hid HD0
      clear hj' HD0
      go_wp2_with fail
      refine HD.out.mono ?_
      rintro e w14 ⟨rfl, h', P', r', hJ, hK⟩
      have HJ14 := Lib.hid hJ
      have HE14 : Hid (Ext w w14) := Lib.hid (HE13.out.trans' hK fun k hk e => by
        have h2 := Hwb.out
        rcases e with e | e
        · have := O.low HJ13.out.st k e; omega
        · have := HJ13.out.ref.base_ k e; omega)
      have hj' : Joint base St r'.rp w14 h' P' r' := by rw [hJ.rp_]; exact hJ
      have HA0 := alike_any O hj'
      rw [hJ.rp_] at HA0
      have HA := Lib.hid HA0
      clear hj' HA0 hJ hK HD c0 c1 c2 c3 c4 c5 c6 c7 c8 c9 c10
      go_wp2_with fail
      refine HA.out.mono ?_
      rintro e w15 ⟨rfl, hx15⟩
      have HJ15 := Lib.hid (HJ14.out.ext O hx15)
      have HE15 : Hid (Ext w w15) := Lib.hid (HE14.out.trans hx15)
      clear hx15 HA HJ14 HE14
      go_wp2_with fail
      exact ⟨⟨k + 1, h', P', r', hlt, by simp, HJ15, HE15⟩, by simp only [intOf]; omega⟩
  · rcases Nat.lt_or_ge k l.length with h1 | h1
    · have h60 : ¬ k < 60 := fun e => hlt ⟨h1, e⟩
      clear hlt
      have h2 : 60 ≤ k := by omega
      go_wp2_with fail
      rw [← HM.out]
      exact ⟨rfl, HE.out⟩
    · have hke : k = l.length := by omega
      subst hke
      clear hlt h1
      go_wp2_with fail
      rw [← HM.out]
      exact ⟨rfl, HE.out⟩
end Go.Proofs.Ytikigppfnhilhaa
