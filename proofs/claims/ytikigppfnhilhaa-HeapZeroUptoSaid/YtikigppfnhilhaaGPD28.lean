/- play: acts on a heap. -/
import Derived.Test.YtikigppfnhilhaaGPD27
/- play: acts on a heap. -/
namespace Go.Proofs.Ytikigppfnhilhaa
open Go.RowKit Go.Instr
set_option linter.unusedVariables false
set_option linter.unusedSimpArgs false
attribute [local go_sem] Oper.semAt_some

section
variable {r : Option Nat} {n : Nat} {P : Program} {ops : Array Oper} {Q : Exit → Act → World → Prop} {S : World → Prop} {f : Nat}
/-- Two operations that can come next. -/
theorem anyS_two {k : Nat} {listed : Array Bool} {a : Act} {w : World} (c d : Nat) {o o' : Oper} (hi : ops[c]? = some o) (hi' : ops[d]? = some o') (hr : Region.ready .any ops listed = [c, d])
    (h : wpListIn (WF r) n P ops (exitK (fun a' w' => (c = f ∨ S w') ∧ anyS r n P ops Q S f k (listed.setIfInBounds c true) a' w') Q) [o] a w)
    (h' : wpListIn (WF r) n P ops (exitK (fun a' w' => (d = f ∨ S w') ∧ anyS r n P ops Q S f k (listed.setIfInBounds d true) a' w') Q) [o'] a w) : anyS r n P ops Q S f (k + 1) listed a w :=
  ⟨fun h0 => (by rw [hr] at h0; cases h0), fun i hm => by
    rw [hr] at hm
    rcases List.mem_cons.1 hm with e | hm
    · subst e; exact opIn_of_list hi h
    · obtain rfl : i = d := by simpa using hm
      exact opIn_of_list hi' h'⟩
end

set_option maxRecDepth 100000 in
set_option maxHeartbeats 2000000 in
theorem play_bad (young old : Int) (v : Value) (w : World) (hb : young < 0 ∨ 100000 < young ∨ old < 0 ∨ 100000 < old) :
    Calls Try.prog 11 #[.int .i64 young, .int .i64 old, v] w fun e w' => e = .returned (.tuple #[.pointer none, .bool false]) ∧ Ext w w' := by
  have HN := Lib.hid (New_bad young old hb w)
  clear hb
  go_enter Try.func11, Try.ntmps11
  go_wp2_with (go_at_call 29; refine HN.out.mono ?_; rintro e w1 ⟨rfl, rfl⟩)
  go_ret2
  exact ⟨rfl, Ext.refl _⟩
set_option maxRecDepth 100000 in
set_option maxHeartbeats 2000000 in
theorem play_big (young old : Int) (v : Value) (w : World) (hy0 : 0 ≤ young) (hy1 : young ≤ 100000) (ho0 : 0 ≤ old) (ho1 : old ≤ 100000) (hb : 300 < young ∨ 300 < old) :
    Calls Try.prog 11 #[.int .i64 young, .int .i64 old, v] w fun e w' => e = .returned (.tuple #[.pointer none, .bool false]) ∧ Ext w w' := by
  have HN := Lib.hid (New_good young old hy0 hy1 ho0 ho1 w)
  by_cases hy : 300 < young
  · clear hb
    go_enter Try.func11, Try.ntmps11
    go_wp2_with (go_at_call 29; refine HN.out.mono ?_; rintro e w1 ⟨x, rfl, -, -, hx⟩)
    go_ret2
    exact ⟨rfl, hx⟩
  · have ho : 300 < old := by omega
    clear hb
    go_enter Try.func11, Try.ntmps11
    go_wp2_with (go_at_call 29; refine HN.out.mono ?_; rintro e w1 ⟨x, rfl, -, -, hx⟩)
    go_ret2
    exact ⟨rfl, hx⟩

theorem RdA.at_ {w : World} {ad : Addr} {n c : Nat} {l : List Ac} (h : RdA w (.slice (some ad) n c) l) {k : Nat} {act : Ac} (hk : l[k]? = some act) {A : Addr} (hA : ad.add (k * 11) = A) :
    ∃ ra rc, (w.cell? A = some (.int .i64 act.kind) ∧ w.cell? { block := A.block, off := A.off + (0 + 1) } = some (.int .i64 act.a) ∧ w.cell? { block := A.block, off := A.off + (1 + 1) } = some (.int .i64 act.b) ∧ w.cell? { block := A.block, off := A.off + (2 + 1) } = some (.int .i64 act.w.tag) ∧ w.cell? { block := A.block, off := A.off + (3 + 1) } = some (.int .i64 act.w.a) ∧ w.cell? { block := A.block, off := A.off + (4 + 1) } = some (.int .i64 act.w.b) ∧ w.cell? { block := A.block, off := A.off + (5 + 1) } = some (.string act.w.text) ∧ w.cell? { block := A.block, off := A.off + (6 + 1) } = some (.int .i64 act.w.man) ∧ w.cell? { block := A.block, off := A.off + (7 + 1) } = some (.int .i64 act.w.exp) ∧ w.cell? { block := A.block, off := A.off + (8 + 1) } = some (.slice ra act.roots.length rc) ∧ w.cell? { block := A.block, off := A.off + (9 + 1) } = some (.bool act.near)) ∧ RdW w (.slice ra act.roots.length rc) act.roots := by
  obtain ⟨a, c', e, h1, h2⟩ := h
  injection e with e _ _
  obtain ⟨ra, rc, h3, h4⟩ := h2 ad e.symm k act hk
  refine ⟨ra, rc, ⟨?_, ?_, ?_, ?_, ?_, ?_, ?_, ?_, ?_, ?_, ?_⟩, h4⟩
  · have := h3 0 _ rfl; rw [hA, Addr.add_zero'] at this; exact this
  · have := h3 (0 + 1) _ rfl; rw [hA, Addr.add_succ'] at this; exact this
  · have := h3 (1 + 1) _ rfl; rw [hA, Addr.add_succ'] at this; exact this
  · have := h3 (2 + 1) _ rfl; rw [hA, Addr.add_succ'] at this; exact this
  · have := h3 (3 + 1) _ rfl; rw [hA, Addr.add_succ'] at this; exact this
  · have := h3 (4 + 1) _ rfl; rw [hA, Addr.add_succ'] at this; exact this
  · have := h3 (5 + 1) _ rfl; rw [hA, Addr.add_succ'] at this; exact this
  · have := h3 (6 + 1) _ rfl; rw [hA, Addr.add_succ'] at this; exact this
  · have := h3 (7 + 1) _ rfl; rw [hA, Addr.add_succ'] at this; exact this
  · have := h3 (8 + 1) _ rfl; rw [hA, Addr.add_succ'] at this; exact this
  · have := h3 (9 + 1) _ rfl; rw [hA, Addr.add_succ'] at this; exact this

set_option maxRecDepth 100000 in
set_option maxHeartbeats 8000000 in
theorem play_good (young old : Int) {v : Value} {l : List Ac} {w : World} (hl : RdA w v l) (hn : l.length ≤ 1048576) (hroots : ∀ x ∈ l, x.roots.length ≤ 1048576) (hy0 : 0 ≤ young) (hy1 : young ≤ 300) (ho0 : 0 ≤ old) (ho1 : old ≤ 300) :
    Calls Try.prog 11 #[.int .i64 young, .int .i64 old, v] w fun e w' => ∃ hp x, e = .returned (.tuple #[.pointer (some ⟨hp, 0, none⟩), .bool true]) ∧ Heap w w' hp young old x := by
  have HN := Lib.hid (New_good young old hy0 (by omega) ho0 (by omega) w)
  have HL := Lib.hid hl
  have Hroots := Lib.hid hroots
  obtain ⟨la, lc, rfl, hla, -⟩ := hl
  have Hla := Lib.hid hla
  clear hla hroots
  go_enter Try.func11, Try.ntmps11
  go_wp2_with (go_at_call 29; refine HN.out.mono ?_; rintro e w1 ⟨x, rfl, hrep, hlog, hx⟩)
  obtain ⟨hp, hhp⟩ : ∃ hp, x.hp = hp := ⟨_, rfl⟩
  rw [hhp]
  have H0 : Hid (Heap w w1 hp young old x) := Lib.hid ⟨hrep, hhp, by rw [hlog]; exact LInv.new _ _, congrArg LH.Y hlog, congrArg LH.O hlog, hx⟩
  clear hrep hlog hx hhp HN
  go_loopw [10] (fun i wr => ∃ (k : Nat) (x : PH), k ≤ l.length ∧ i = .int .i64 k ∧ Hid (Heap w wr hp young old x)) (fun i wr => l.length - (intOf i).toNat)
  case atStart => exact ⟨0, x, Nat.zero_le _, rfl, H0⟩
  case round =>
    clear H0
    obtain ⟨k, x, hk, rfl, H⟩ := hrel
    by_cases hlt : k < l.length ∧ k < 60
    · obtain ⟨hlt, h60⟩ := hlt
      obtain ⟨act, hact⟩ : ∃ act, l[k]? = some act := ⟨_, List.getElem?_eq_getElem hlt⟩
      cases la with
      | none => rw [Hla.out rfl] at hlt; simp at hlt
      | some ad =>
      obtain ⟨A, hA⟩ : ∃ A, ad.add (k * 11) = A := ⟨_, rfl⟩
      obtain ⟨ra, rc, hS, hrr⟩ := HL.out.at_ hact hA
      have hrl := Hroots.out act (List.mem_of_getElem? hact)
      have HS : Hid (wr.drew.cell? A = some (.int .i64 act.kind) ∧ wr.drew.cell? { block := A.block, off := A.off + (0 + 1) } = some (.int .i64 act.a) ∧ wr.drew.cell? { block := A.block, off := A.off + (1 + 1) } = some (.int .i64 act.b) ∧ wr.drew.cell? { block := A.block, off := A.off + (2 + 1) } = some (.int .i64 act.w.tag) ∧ wr.drew.cell? { block := A.block, off := A.off + (3 + 1) } = some (.int .i64 act.w.a) ∧ wr.drew.cell? { block := A.block, off := A.off + (4 + 1) } = some (.int .i64 act.w.b) ∧ wr.drew.cell? { block := A.block, off := A.off + (5 + 1) } = some (.string act.w.text) ∧ wr.drew.cell? { block := A.block, off := A.off + (6 + 1) } = some (.int .i64 act.w.man) ∧ wr.drew.cell? { block := A.block, off := A.off + (7 + 1) } = some (.int .i64 act.w.exp) ∧ wr.drew.cell? { block := A.block, off := A.off + (8 + 1) } = some (.slice ra act.roots.length rc) ∧ wr.drew.cell? { block := A.block, off := A.off + (9 + 1) } = some (.bool act.near)) := Lib.hid (by obtain ⟨d0, d1, d2, d3, d4, d5, d6, d7, d8, d9, d10⟩ := hS; exact ⟨H.out.ext.cell d0, H.out.ext.cell d1, H.out.ext.cell d2, H.out.ext.cell d3, H.out.ext.cell d4, H.out.ext.cell d5, H.out.ext.cell d6, H.out.ext.cell d7, H.out.ext.cell d8, H.out.ext.cell d9, H.out.ext.cell d10⟩)
      have H9 : Hid (Heap w wr.drew hp young old x) := Lib.hid (H.out.later (Ext.refl wr).drew)
      have Hrr := Lib.hid hrr
      clear hS hrr H
      go_wp2_with fail
      refine region_S_plain (n := 3) (fun V => V.cell? A = some (.int .i64 act.kind) ∧ V.cell? { block := A.block, off := A.off + (0 + 1) } = some (.int .i64 act.a) ∧ V.cell? { block := A.block, off := A.off + (1 + 1) } = some (.int .i64 act.b) ∧ V.cell? { block := A.block, off := A.off + (2 + 1) } = some (.int .i64 act.w.tag) ∧ V.cell? { block := A.block, off := A.off + (3 + 1) } = some (.int .i64 act.w.a) ∧ V.cell? { block := A.block, off := A.off + (4 + 1) } = some (.int .i64 act.w.b) ∧ V.cell? { block := A.block, off := A.off + (5 + 1) } = some (.string act.w.text) ∧ V.cell? { block := A.block, off := A.off + (6 + 1) } = some (.int .i64 act.w.man) ∧ V.cell? { block := A.block, off := A.off + (7 + 1) } = some (.int .i64 act.w.exp) ∧ V.cell? { block := A.block, off := A.off + (8 + 1) } = some (.slice ra act.roots.length rc) ∧ V.cell? { block := A.block, off := A.off + (9 + 1) } = some (.bool act.near)) 8 (by kernel_rfl) ?_
      generalize wr.drew = w9 at HS H9 ⊢
      refine anyS_quiet (a2 := ?a0) 0 rfl rfl rfl (by kernel_rfl) (by kernel_rfl) (by kernel_rfl) (by kernel_rfl) (by kernel_rfl) (by kernel_rfl) (fun _ _ _ _ h => h) HS.out ?h0 ?k0
      case h0 => intro W hW K hK; obtain ⟨d0, d1, d2, d3, d4, d5, d6, d7, d8, d9, d10⟩ := hW; go_simp; exact hK
      refine anyS_quiet (a2 := ?ab_2) 2 rfl rfl rfl (by kernel_rfl) (by kernel_rfl) (by kernel_rfl) (by kernel_rfl) (by kernel_rfl) (by kernel_rfl) (fun _ _ _ _ h => h) HS.out ?hb_2 ?kb_2
      case hb_2 => intro W hW K hK; obtain ⟨d0, d1, d2, d3, d4, d5, d6, d7, d8, d9, d10⟩ := hW; go_simp; exact hK
      refine anyS_quiet (a2 := ?ab_3) 3 rfl rfl rfl (by kernel_rfl) (by kernel_rfl) (by kernel_rfl) (by kernel_rfl) (by kernel_rfl) (by kernel_rfl) (fun _ _ _ _ h => h) HS.out ?hb_3 ?kb_3
      case hb_3 => intro W hW K hK; obtain ⟨d0, d1, d2, d3, d4, d5, d6, d7, d8, d9, d10⟩ := hW; go_simp; exact hK
      refine anyS_quiet (a2 := ?ab_4) 4 rfl rfl rfl (by kernel_rfl) (by kernel_rfl) (by kernel_rfl) (by kernel_rfl) (by kernel_rfl) (by kernel_rfl) (fun _ _ _ _ h => h) HS.out ?hb_4 ?kb_4
      case hb_4 => intro W hW K hK; obtain ⟨d0, d1, d2, d3, d4, d5, d6, d7, d8, d9, d10⟩ := hW; go_simp; exact hK
      refine anyS_quiet (a2 := ?ab_5) 5 rfl rfl rfl (by kernel_rfl) (by kernel_rfl) (by kernel_rfl) (by kernel_rfl) (by kernel_rfl) (by kernel_rfl) (fun _ _ _ _ h => h) HS.out ?hb_5 ?kb_5
      case hb_5 => intro W hW K hK; obtain ⟨d0, d1, d2, d3, d4, d5, d6, d7, d8, d9, d10⟩ := hW; go_simp; exact hK
      refine anyS_two 1 7 rfl rfl (by kernel_rfl) ?_ ?_
      · gi_wp2_with fail
        refine (callsIn_WF (H9.out.blocks)).mono ?_
        rintro e w10 ⟨ba, bc, vs, rfl, hob, hxb⟩
        have HOB := Lib.hid (rdB_of_own hob)
        have HS : Hid (w10.cell? A = some (.int .i64 act.kind) ∧ w10.cell? { block := A.block, off := A.off + (0 + 1) } = some (.int .i64 act.a) ∧ w10.cell? { block := A.block, off := A.off + (1 + 1) } = some (.int .i64 act.b) ∧ w10.cell? { block := A.block, off := A.off + (2 + 1) } = some (.int .i64 act.w.tag) ∧ w10.cell? { block := A.block, off := A.off + (3 + 1) } = some (.int .i64 act.w.a) ∧ w10.cell? { block := A.block, off := A.off + (4 + 1) } = some (.int .i64 act.w.b) ∧ w10.cell? { block := A.block, off := A.off + (5 + 1) } = some (.string act.w.text) ∧ w10.cell? { block := A.block, off := A.off + (6 + 1) } = some (.int .i64 act.w.man) ∧ w10.cell? { block := A.block, off := A.off + (7 + 1) } = some (.int .i64 act.w.exp) ∧ w10.cell? { block := A.block, off := A.off + (8 + 1) } = some (.slice ra act.roots.length rc) ∧ w10.cell? { block := A.block, off := A.off + (9 + 1) } = some (.bool act.near)) := Lib.hid (by obtain ⟨d0, d1, d2, d3, d4, d5, d6, d7, d8, d9, d10⟩ := HS.out; exact ⟨hxb.cell d0, hxb.cell d1, hxb.cell d2, hxb.cell d3, hxb.cell d4, hxb.cell d5, hxb.cell d6, hxb.cell d7, hxb.cell d8, hxb.cell d9, hxb.cell d10⟩)
        have Hw10 : Hid (Heap w w10 hp young old x) := Lib.hid (H9.out.later hxb)
        have HEb := Lib.hid hxb
        clear hob hxb
        gi_wp2
        refine And.intro (.inr HS.out) ?_
        refine anyS_two 6 7 rfl rfl (by kernel_rfl) ?_ ?_

        · have HFX := Lib.hid (fixed_any (HOB.out) Hw10.out.all_len act ra rc (Hrr.out.ext Hw10.out.ext) hrl)
          gi_wp2_with fail
          refine (callsIn_WF HFX.out).mono ?_
          rintro e w11 ⟨ra2, rc2, rfl, hrd, hsrc, hxf⟩
          obtain ⟨y, hy⟩ : ∃ y, fixedA x.log.all act = y := ⟨_, rfl⟩
          rw [hy] at hrd hsrc ⊢
          have Hsrc := Lib.hid hsrc
          have HRD := Lib.hid hrd
          have Hyl : Hid (y.roots.length ≤ 1048576) := Lib.hid (by rw [← hy]; exact fixedA_len hrl)
          have HS : Hid (w11.cell? A = some (.int .i64 act.kind) ∧ w11.cell? { block := A.block, off := A.off + (0 + 1) } = some (.int .i64 act.a) ∧ w11.cell? { block := A.block, off := A.off + (1 + 1) } = some (.int .i64 act.b) ∧ w11.cell? { block := A.block, off := A.off + (2 + 1) } = some (.int .i64 act.w.tag) ∧ w11.cell? { block := A.block, off := A.off + (3 + 1) } = some (.int .i64 act.w.a) ∧ w11.cell? { block := A.block, off := A.off + (4 + 1) } = some (.int .i64 act.w.b) ∧ w11.cell? { block := A.block, off := A.off + (5 + 1) } = some (.string act.w.text) ∧ w11.cell? { block := A.block, off := A.off + (6 + 1) } = some (.int .i64 act.w.man) ∧ w11.cell? { block := A.block, off := A.off + (7 + 1) } = some (.int .i64 act.w.exp) ∧ w11.cell? { block := A.block, off := A.off + (8 + 1) } = some (.slice ra act.roots.length rc) ∧ w11.cell? { block := A.block, off := A.off + (9 + 1) } = some (.bool act.near)) := Lib.hid (by obtain ⟨d0, d1, d2, d3, d4, d5, d6, d7, d8, d9, d10⟩ := HS.out; exact ⟨hxf.cell d0, hxf.cell d1, hxf.cell d2, hxf.cell d3, hxf.cell d4, hxf.cell d5, hxf.cell d6, hxf.cell d7, hxf.cell d8, hxf.cell d9, hxf.cell d10⟩)
          have Hw11 : Hid (Heap w w11 hp young old x) := Lib.hid (Hw10.out.later hxf)
          have HEf := Lib.hid hxf
          clear hrd hsrc hxf HFX hy
          unfold Ac.cells
          gi_wp2
          refine And.intro (.inr HS.out) ?_
          refine anyS_only 7 rfl (by kernel_rfl) ?_
          gi_wp2
          obtain ⟨w12, hw12⟩ : ∃ W, w11.alloc (.cells #[.int .i64 0, .int .i64 0, .int .i64 0, .int .i64 0, .int .i64 0, .int .i64 0, .string ⟨#[]⟩, .int .i64 0, .int .i64 0, .slice none 0 0, .bool false] 35) = W := ⟨_, rfl⟩
          have hxa : Ext w11 w12 := by rw [← hw12]; exact (Ext.refl _).alloc _
          obtain ⟨bx, hbx⟩ : ∃ bx, w11.heap.size = bx := ⟨_, rfl⟩
          have HBX : Hid (Blk w12 bx #[.int .i64 0, .int .i64 0, .int .i64 0, .int .i64 0, .int .i64 0, .int .i64 0, .string ⟨#[]⟩, .int .i64 0, .int .i64 0, .slice none 0 0, .bool false] 35) := Lib.hid (by rw [← hw12, ← hbx]; exact Blk.new _ _ _)
          have Hbxs : Hid (w12.heap.size = bx + 1) := Lib.hid (by rw [← hw12, ← hbx]; simp)
          rw [hw12]
          try rw [hbx]
          have Hbx := Lib.hid hbx
          have HS : Hid (w12.cell? A = some (.int .i64 act.kind) ∧ w12.cell? { block := A.block, off := A.off + (0 + 1) } = some (.int .i64 act.a) ∧ w12.cell? { block := A.block, off := A.off + (1 + 1) } = some (.int .i64 act.b) ∧ w12.cell? { block := A.block, off := A.off + (2 + 1) } = some (.int .i64 act.w.tag) ∧ w12.cell? { block := A.block, off := A.off + (3 + 1) } = some (.int .i64 act.w.a) ∧ w12.cell? { block := A.block, off := A.off + (4 + 1) } = some (.int .i64 act.w.b) ∧ w12.cell? { block := A.block, off := A.off + (5 + 1) } = some (.string act.w.text) ∧ w12.cell? { block := A.block, off := A.off + (6 + 1) } = some (.int .i64 act.w.man) ∧ w12.cell? { block := A.block, off := A.off + (7 + 1) } = some (.int .i64 act.w.exp) ∧ w12.cell? { block := A.block, off := A.off + (8 + 1) } = some (.slice ra act.roots.length rc) ∧ w12.cell? { block := A.block, off := A.off + (9 + 1) } = some (.bool act.near)) := Lib.hid (by obtain ⟨d0, d1, d2, d3, d4, d5, d6, d7, d8, d9, d10⟩ := HS.out; exact ⟨hxa.cell d0, hxa.cell d1, hxa.cell d2, hxa.cell d3, hxa.cell d4, hxa.cell d5, hxa.cell d6, hxa.cell d7, hxa.cell d8, hxa.cell d9, hxa.cell d10⟩)
          have Hw12 : Hid (Heap w w12 hp young old x) := Lib.hid (Hw11.out.later hxa)
          have HEa := Lib.hid hxa
          clear hxa hw12 hbx
          refine And.intro (.inr HS.out) ?_
          have HBZ : Hid (Blk w12 bx #[.int .i64 0, .int .i64 0, .int .i64 0, .int .i64 0, .int .i64 0, .int .i64 0, .string ⟨#[]⟩, .int .i64 0, .int .i64 0, .slice none 0 0, .bool false] 35) := Lib.hid (HBX.out)
          have HRD2 : Hid (RdW w12 (.slice ra2 y.roots.length rc2) y.roots) := Lib.hid (HRD.out.ext HEa.out)
          have hnb1 : ¬ x.fp bx := fun hf => by have := Hw11.out.rep.fp_lt bx hf; have := Hbx.out; omega
          have hnb2 : w.heap.size ≤ bx := by have := Hw11.out.ext.size; have := Hbx.out; omega
          have hd : y.roots ≠ [] → ∀ k, (Value.slice ra2 y.roots.length rc2).ownBlock = some k → ¬ x.fp k ∧ k ≠ bx := by
            intro hn k hk
            have hlt := HRD.out.lt hn hk
            rcases Hsrc.out with ⟨e1, e⟩ | h
            · subst e1
              have hk' : (Value.slice ra2 act.roots.length rc).ownBlock = some k := by
                cases ra2 with
                | none => simp [Value.ownBlock] at hk
                | some a2 => simpa [Value.ownBlock] using hk
              have h1 := Hrr.out.lt (by rw [← e]; exact hn) hk'
              exact ⟨fun hf => by have := H9.out.rep.base_ k hf; omega, fun e2 => by omega⟩
            · cases ra2 with
              | none => simp [Value.ownBlock] at hk
              | some a2 =>
                have e2 : a2.block = k := by simpa [Value.ownBlock] using hk
                have h2 := h a2 rfl
                refine ⟨fun hf => ?_, fun e3 => ?_⟩
                · have := Hw10.out.rep.fp_lt k hf; omega
                · have := Hbx.out; omega
          have Hnb : Hid (¬ x.fp bx ∧ w.heap.size ≤ bx) := Lib.hid ⟨hnb1, hnb2⟩
          have Hd := Lib.hid hd
          clear hnb1 hnb2 hd
          have z0 : w12.cell? ⟨bx, 0, none⟩ = some (.int .i64 0) := (HBZ.out.cell 0).trans rfl
          have y0 := HBZ.out.frozen 0
          have z1 : w12.cell? ⟨bx, 1, none⟩ = some (.int .i64 0) := (HBZ.out.cell 1).trans rfl
          have y1 := HBZ.out.frozen 1
          have z2 : w12.cell? ⟨bx, 2, none⟩ = some (.int .i64 0) := (HBZ.out.cell 2).trans rfl
          have y2 := HBZ.out.frozen 2
          have z3 : w12.cell? ⟨bx, 3, none⟩ = some (.int .i64 0) := (HBZ.out.cell 3).trans rfl
          have y3 := HBZ.out.frozen 3
          have z4 : w12.cell? ⟨bx, 4, none⟩ = some (.int .i64 0) := (HBZ.out.cell 4).trans rfl
          have y4 := HBZ.out.frozen 4
          have z5 : w12.cell? ⟨bx, 5, none⟩ = some (.int .i64 0) := (HBZ.out.cell 5).trans rfl
          have y5 := HBZ.out.frozen 5
          have z6 : w12.cell? ⟨bx, 6, none⟩ = some (.string ⟨#[]⟩) := (HBZ.out.cell 6).trans rfl
          have y6 := HBZ.out.frozen 6
          have z7 : w12.cell? ⟨bx, 7, none⟩ = some (.int .i64 0) := (HBZ.out.cell 7).trans rfl
          have y7 := HBZ.out.frozen 7
          have z8 : w12.cell? ⟨bx, 8, none⟩ = some (.int .i64 0) := (HBZ.out.cell 8).trans rfl
          have y8 := HBZ.out.frozen 8
          have z9 : w12.cell? ⟨bx, 9, none⟩ = some (.slice none 0 0) := (HBZ.out.cell 9).trans rfl
          have y9 := HBZ.out.frozen 9
          have z10 : w12.cell? ⟨bx, 10, none⟩ = some (.bool false) := (HBZ.out.cell 10).trans rfl
          have y10 := HBZ.out.frozen 10
          refine anyS_only 8 rfl (by kernel_rfl) ?_
          gi_wp2
          refine anyS_done (by kernel_rfl) ?_ _
          obtain ⟨hb11, hk11⟩ := set11 HBZ.out (.int .i64 y.kind) (.int .i64 y.a) (.int .i64 y.b) (.int .i64 y.w.tag) (.int .i64 y.w.a) (.int .i64 y.w.b) (.string y.w.text) (.int .i64 y.w.man) (.int .i64 y.w.exp) (.slice ra2 y.roots.length rc2) (.bool y.near)
          have H13 := Lib.hid (Hw12.out.keep1 hk11 Hnb.out.2 Hnb.out.1)
          have HB13 := Lib.hid hb11
          have HR13 := Lib.hid (HRD2.out.kept2 hk11 fun hn k hk e => (Hd.out hn k hk).2 e)
          clear hb11 hk11 z0 y0 z1 y1 z2 y2 z3 y3 z4 y4 z5 y5 z6 y6 z7 y7 z8 y8 z9 y9 z10 y10
          generalize (((((((((((w12.setCell ⟨bx, 0, none⟩ (.int .i64 y.kind)).setCell ⟨bx, 1, none⟩ (.int .i64 y.a)).setCell ⟨bx, 2, none⟩ (.int .i64 y.b)).setCell ⟨bx, 3, none⟩ (.int .i64 y.w.tag)).setCell ⟨bx, 4, none⟩ (.int .i64 y.w.a)).setCell ⟨bx, 5, none⟩ (.int .i64 y.w.b)).setCell ⟨bx, 6, none⟩ (.string y.w.text)).setCell ⟨bx, 7, none⟩ (.int .i64 y.w.man)).setCell ⟨bx, 8, none⟩ (.int .i64 y.w.exp)).setCell ⟨bx, 9, none⟩ (.slice ra2 y.roots.length rc2)).setCell ⟨bx, 10, none⟩ (.bool y.near)) = w13 at H13 HB13 HR13 ⊢
          have c0 : w13.cell? ⟨bx, 0, none⟩ = some (.int .i64 y.kind) := (HB13.out.cell 0).trans rfl
          have c1 : w13.cell? ⟨bx, 1, none⟩ = some (.int .i64 y.a) := (HB13.out.cell 1).trans rfl
          have c2 : w13.cell? ⟨bx, 2, none⟩ = some (.int .i64 y.b) := (HB13.out.cell 2).trans rfl
          have c3 : w13.cell? ⟨bx, 3, none⟩ = some (.int .i64 y.w.tag) := (HB13.out.cell 3).trans rfl
          have c4 : w13.cell? ⟨bx, 4, none⟩ = some (.int .i64 y.w.a) := (HB13.out.cell 4).trans rfl
          have c5 : w13.cell? ⟨bx, 5, none⟩ = some (.int .i64 y.w.b) := (HB13.out.cell 5).trans rfl
          have c6 : w13.cell? ⟨bx, 6, none⟩ = some (.string y.w.text) := (HB13.out.cell 6).trans rfl
          have c7 : w13.cell? ⟨bx, 7, none⟩ = some (.int .i64 y.w.man) := (HB13.out.cell 7).trans rfl
          have c8 : w13.cell? ⟨bx, 8, none⟩ = some (.int .i64 y.w.exp) := (HB13.out.cell 8).trans rfl
          have c9 : w13.cell? ⟨bx, 9, none⟩ = some (.slice ra2 y.roots.length rc2) := (HB13.out.cell 9).trans rfl
          have HC0 := Lib.hid (H13.out.alloc y.a y.b)
          have HC1 := Lib.hid (H13.out.store y.a y.b y.w)
          unfold Wd.val Wd.cells at HC1
          have HC3 := Lib.hid (H13.out.minor HR13.out (fun hn k hk => (Hd.out hn k hk).1) Hyl.out)
          have HC4 := Lib.hid (H13.out.major HR13.out (fun hn k hk => (Hd.out hn k hk).1) Hyl.out)
          by_cases k0 : y.kind = 0
          · have k0' : (y.kind == 0) = true := by simpa using k0
            clear k0
            go_wp2_with (go_at_call 34; refine HC0.out.mono ?_; rintro e w14 ⟨rfl, x', h14⟩)
            exact ⟨⟨k + 1, x', hlt, by simp, h14⟩, by simp only [intOf]; omega⟩
          · have k0' : (y.kind == 0) = false := by simpa using k0
            clear k0
            by_cases k1 : y.kind = 1
            · have k1' : (y.kind == 1) = true := by simpa using k1
              clear k1
              go_wp2_with (go_at_call 19; refine HC1.out.mono ?_; rintro e w14 ⟨rfl, h14, -⟩)
              exact ⟨⟨k + 1, _, hlt, by simp, h14⟩, by simp only [intOf]; omega⟩
            · have k1' : (y.kind == 1) = false := by simpa using k1
              clear k1
              by_cases k3 : y.kind = 3
              · have k3' : (y.kind == 3) = true := by simpa using k3
                clear k3
                go_wp2_with (go_at_call 35; refine HC3.out.mono ?_; rintro e w14 ⟨v', rfl, -, ⟨x', h14, -⟩, -⟩)
                exact ⟨⟨k + 1, x', hlt, by simp, h14⟩, by simp only [intOf]; omega⟩
              · have k3' : (y.kind == 3) = false := by simpa using k3
                clear k3
                by_cases k4 : y.kind = 4
                · have k4' : (y.kind == 4) = true := by simpa using k4
                  clear k4
                  go_wp2_with (go_at_call 36; refine HC4.out.mono ?_; rintro e w14 ⟨v', rfl, -, ⟨x', h14, -⟩, -⟩)
                  exact ⟨⟨k + 1, x', hlt, by simp, h14⟩, by simp only [intOf]; omega⟩
                · have k4' : (y.kind == 4) = false := by simpa using k4
                  clear k4
                  go_wp2
                  exact ⟨⟨k + 1, x, hlt, by simp, H13⟩, by simp only [intOf]; omega⟩
        · gi_wp2
          obtain ⟨w11, hw11⟩ : ∃ W, w10.alloc (.cells #[.int .i64 0, .int .i64 0, .int .i64 0, .int .i64 0, .int .i64 0, .int .i64 0, .string ⟨#[]⟩, .int .i64 0, .int .i64 0, .slice none 0 0, .bool false] 35) = W := ⟨_, rfl⟩
          have hxa : Ext w10 w11 := by rw [← hw11]; exact (Ext.refl _).alloc _
          obtain ⟨bx, hbx⟩ : ∃ bx, w10.heap.size = bx := ⟨_, rfl⟩
          have HBX : Hid (Blk w11 bx #[.int .i64 0, .int .i64 0, .int .i64 0, .int .i64 0, .int .i64 0, .int .i64 0, .string ⟨#[]⟩, .int .i64 0, .int .i64 0, .slice none 0 0, .bool false] 35) := Lib.hid (by rw [← hw11, ← hbx]; exact Blk.new _ _ _)
          have Hbxs : Hid (w11.heap.size = bx + 1) := Lib.hid (by rw [← hw11, ← hbx]; simp)
          rw [hw11]
          try rw [hbx]
          have Hbx := Lib.hid hbx
          have HS : Hid (w11.cell? A = some (.int .i64 act.kind) ∧ w11.cell? { block := A.block, off := A.off + (0 + 1) } = some (.int .i64 act.a) ∧ w11.cell? { block := A.block, off := A.off + (1 + 1) } = some (.int .i64 act.b) ∧ w11.cell? { block := A.block, off := A.off + (2 + 1) } = some (.int .i64 act.w.tag) ∧ w11.cell? { block := A.block, off := A.off + (3 + 1) } = some (.int .i64 act.w.a) ∧ w11.cell? { block := A.block, off := A.off + (4 + 1) } = some (.int .i64 act.w.b) ∧ w11.cell? { block := A.block, off := A.off + (5 + 1) } = some (.string act.w.text) ∧ w11.cell? { block := A.block, off := A.off + (6 + 1) } = some (.int .i64 act.w.man) ∧ w11.cell? { block := A.block, off := A.off + (7 + 1) } = some (.int .i64 act.w.exp) ∧ w11.cell? { block := A.block, off := A.off + (8 + 1) } = some (.slice ra act.roots.length rc) ∧ w11.cell? { block := A.block, off := A.off + (9 + 1) } = some (.bool act.near)) := Lib.hid (by obtain ⟨d0, d1, d2, d3, d4, d5, d6, d7, d8, d9, d10⟩ := HS.out; exact ⟨hxa.cell d0, hxa.cell d1, hxa.cell d2, hxa.cell d3, hxa.cell d4, hxa.cell d5, hxa.cell d6, hxa.cell d7, hxa.cell d8, hxa.cell d9, hxa.cell d10⟩)
          have Hw11 : Hid (Heap w w11 hp young old x) := Lib.hid (Hw10.out.later hxa)
          have HEa := Lib.hid hxa
          clear hxa hw11 hbx
          refine And.intro (.inr HS.out) ?_
          refine anyS_only 6 rfl (by kernel_rfl) ?_
          have HFX := Lib.hid (fixed_any (HOB.out.ext HEa.out) Hw11.out.all_len act ra rc (Hrr.out.ext Hw11.out.ext) hrl)
          gi_wp2_with fail
          refine (callsIn_WF HFX.out).mono ?_
          rintro e w12 ⟨ra2, rc2, rfl, hrd, hsrc, hxf⟩
          obtain ⟨y, hy⟩ : ∃ y, fixedA x.log.all act = y := ⟨_, rfl⟩
          rw [hy] at hrd hsrc ⊢
          have Hsrc := Lib.hid hsrc
          have HRD := Lib.hid hrd
          have Hyl : Hid (y.roots.length ≤ 1048576) := Lib.hid (by rw [← hy]; exact fixedA_len hrl)
          have HS : Hid (w12.cell? A = some (.int .i64 act.kind) ∧ w12.cell? { block := A.block, off := A.off + (0 + 1) } = some (.int .i64 act.a) ∧ w12.cell? { block := A.block, off := A.off + (1 + 1) } = some (.int .i64 act.b) ∧ w12.cell? { block := A.block, off := A.off + (2 + 1) } = some (.int .i64 act.w.tag) ∧ w12.cell? { block := A.block, off := A.off + (3 + 1) } = some (.int .i64 act.w.a) ∧ w12.cell? { block := A.block, off := A.off + (4 + 1) } = some (.int .i64 act.w.b) ∧ w12.cell? { block := A.block, off := A.off + (5 + 1) } = some (.string act.w.text) ∧ w12.cell? { block := A.block, off := A.off + (6 + 1) } = some (.int .i64 act.w.man) ∧ w12.cell? { block := A.block, off := A.off + (7 + 1) } = some (.int .i64 act.w.exp) ∧ w12.cell? { block := A.block, off := A.off + (8 + 1) } = some (.slice ra act.roots.length rc) ∧ w12.cell? { block := A.block, off := A.off + (9 + 1) } = some (.bool act.near)) := Lib.hid (by obtain ⟨d0, d1, d2, d3, d4, d5, d6, d7, d8, d9, d10⟩ := HS.out; exact ⟨hxf.cell d0, hxf.cell d1, hxf.cell d2, hxf.cell d3, hxf.cell d4, hxf.cell d5, hxf.cell d6, hxf.cell d7, hxf.cell d8, hxf.cell d9, hxf.cell d10⟩)
          have Hw12 : Hid (Heap w w12 hp young old x) := Lib.hid (Hw11.out.later hxf)
          have HEf := Lib.hid hxf
          clear hrd hsrc hxf HFX hy
          unfold Ac.cells
          gi_wp2
          refine And.intro (.inr HS.out) ?_
          have HBZ : Hid (Blk w12 bx #[.int .i64 0, .int .i64 0, .int .i64 0, .int .i64 0, .int .i64 0, .int .i64 0, .string ⟨#[]⟩, .int .i64 0, .int .i64 0, .slice none 0 0, .bool false] 35) := Lib.hid (HEf.out.blk HBX.out id)
          have HRD2 : Hid (RdW w12 (.slice ra2 y.roots.length rc2) y.roots) := Lib.hid (HRD.out)
          have hnb1 : ¬ x.fp bx := fun hf => by have := Hw10.out.rep.fp_lt bx hf; have := Hbx.out; omega
          have hnb2 : w.heap.size ≤ bx := by have := Hw10.out.ext.size; have := Hbx.out; omega
          have hd : y.roots ≠ [] → ∀ k, (Value.slice ra2 y.roots.length rc2).ownBlock = some k → ¬ x.fp k ∧ k ≠ bx := by
            intro hn k hk
            have hlt := HRD.out.lt hn hk
            rcases Hsrc.out with ⟨e1, e⟩ | h
            · subst e1
              have hk' : (Value.slice ra2 act.roots.length rc).ownBlock = some k := by
                cases ra2 with
                | none => simp [Value.ownBlock] at hk
                | some a2 => simpa [Value.ownBlock] using hk
              have h1 := Hrr.out.lt (by rw [← e]; exact hn) hk'
              exact ⟨fun hf => by have := H9.out.rep.base_ k hf; omega, fun e2 => by omega⟩
            · cases ra2 with
              | none => simp [Value.ownBlock] at hk
              | some a2 =>
                have e2 : a2.block = k := by simpa [Value.ownBlock] using hk
                have h2 := h a2 rfl
                refine ⟨fun hf => ?_, fun e3 => ?_⟩
                · have := Hw11.out.rep.fp_lt k hf; omega
                · have := Hbxs.out; omega
          have Hnb : Hid (¬ x.fp bx ∧ w.heap.size ≤ bx) := Lib.hid ⟨hnb1, hnb2⟩
          have Hd := Lib.hid hd
          clear hnb1 hnb2 hd
          have z0 : w12.cell? ⟨bx, 0, none⟩ = some (.int .i64 0) := (HBZ.out.cell 0).trans rfl
          have y0 := HBZ.out.frozen 0
          have z1 : w12.cell? ⟨bx, 1, none⟩ = some (.int .i64 0) := (HBZ.out.cell 1).trans rfl
          have y1 := HBZ.out.frozen 1
          have z2 : w12.cell? ⟨bx, 2, none⟩ = some (.int .i64 0) := (HBZ.out.cell 2).trans rfl
          have y2 := HBZ.out.frozen 2
          have z3 : w12.cell? ⟨bx, 3, none⟩ = some (.int .i64 0) := (HBZ.out.cell 3).trans rfl
          have y3 := HBZ.out.frozen 3
          have z4 : w12.cell? ⟨bx, 4, none⟩ = some (.int .i64 0) := (HBZ.out.cell 4).trans rfl
          have y4 := HBZ.out.frozen 4
          have z5 : w12.cell? ⟨bx, 5, none⟩ = some (.int .i64 0) := (HBZ.out.cell 5).trans rfl
          have y5 := HBZ.out.frozen 5
          have z6 : w12.cell? ⟨bx, 6, none⟩ = some (.string ⟨#[]⟩) := (HBZ.out.cell 6).trans rfl
          have y6 := HBZ.out.frozen 6
          have z7 : w12.cell? ⟨bx, 7, none⟩ = some (.int .i64 0) := (HBZ.out.cell 7).trans rfl
          have y7 := HBZ.out.frozen 7
          have z8 : w12.cell? ⟨bx, 8, none⟩ = some (.int .i64 0) := (HBZ.out.cell 8).trans rfl
          have y8 := HBZ.out.frozen 8
          have z9 : w12.cell? ⟨bx, 9, none⟩ = some (.slice none 0 0) := (HBZ.out.cell 9).trans rfl
          have y9 := HBZ.out.frozen 9
          have z10 : w12.cell? ⟨bx, 10, none⟩ = some (.bool false) := (HBZ.out.cell 10).trans rfl
          have y10 := HBZ.out.frozen 10
          refine anyS_only 8 rfl (by kernel_rfl) ?_
          gi_wp2
          refine anyS_done (by kernel_rfl) ?_ _
          obtain ⟨hb11, hk11⟩ := set11 HBZ.out (.int .i64 y.kind) (.int .i64 y.a) (.int .i64 y.b) (.int .i64 y.w.tag) (.int .i64 y.w.a) (.int .i64 y.w.b) (.string y.w.text) (.int .i64 y.w.man) (.int .i64 y.w.exp) (.slice ra2 y.roots.length rc2) (.bool y.near)
          have H13 := Lib.hid (Hw12.out.keep1 hk11 Hnb.out.2 Hnb.out.1)
          have HB13 := Lib.hid hb11
          have HR13 := Lib.hid (HRD2.out.kept2 hk11 fun hn k hk e => (Hd.out hn k hk).2 e)
          clear hb11 hk11 z0 y0 z1 y1 z2 y2 z3 y3 z4 y4 z5 y5 z6 y6 z7 y7 z8 y8 z9 y9 z10 y10
          generalize (((((((((((w12.setCell ⟨bx, 0, none⟩ (.int .i64 y.kind)).setCell ⟨bx, 1, none⟩ (.int .i64 y.a)).setCell ⟨bx, 2, none⟩ (.int .i64 y.b)).setCell ⟨bx, 3, none⟩ (.int .i64 y.w.tag)).setCell ⟨bx, 4, none⟩ (.int .i64 y.w.a)).setCell ⟨bx, 5, none⟩ (.int .i64 y.w.b)).setCell ⟨bx, 6, none⟩ (.string y.w.text)).setCell ⟨bx, 7, none⟩ (.int .i64 y.w.man)).setCell ⟨bx, 8, none⟩ (.int .i64 y.w.exp)).setCell ⟨bx, 9, none⟩ (.slice ra2 y.roots.length rc2)).setCell ⟨bx, 10, none⟩ (.bool y.near)) = w13 at H13 HB13 HR13 ⊢
          have c0 : w13.cell? ⟨bx, 0, none⟩ = some (.int .i64 y.kind) := (HB13.out.cell 0).trans rfl
          have c1 : w13.cell? ⟨bx, 1, none⟩ = some (.int .i64 y.a) := (HB13.out.cell 1).trans rfl
          have c2 : w13.cell? ⟨bx, 2, none⟩ = some (.int .i64 y.b) := (HB13.out.cell 2).trans rfl
          have c3 : w13.cell? ⟨bx, 3, none⟩ = some (.int .i64 y.w.tag) := (HB13.out.cell 3).trans rfl
          have c4 : w13.cell? ⟨bx, 4, none⟩ = some (.int .i64 y.w.a) := (HB13.out.cell 4).trans rfl
          have c5 : w13.cell? ⟨bx, 5, none⟩ = some (.int .i64 y.w.b) := (HB13.out.cell 5).trans rfl
          have c6 : w13.cell? ⟨bx, 6, none⟩ = some (.string y.w.text) := (HB13.out.cell 6).trans rfl
          have c7 : w13.cell? ⟨bx, 7, none⟩ = some (.int .i64 y.w.man) := (HB13.out.cell 7).trans rfl
          have c8 : w13.cell? ⟨bx, 8, none⟩ = some (.int .i64 y.w.exp) := (HB13.out.cell 8).trans rfl
          have c9 : w13.cell? ⟨bx, 9, none⟩ = some (.slice ra2 y.roots.length rc2) := (HB13.out.cell 9).trans rfl
          have HC0 := Lib.hid (H13.out.alloc y.a y.b)
          have HC1 := Lib.hid (H13.out.store y.a y.b y.w)
          unfold Wd.val Wd.cells at HC1
          have HC3 := Lib.hid (H13.out.minor HR13.out (fun hn k hk => (Hd.out hn k hk).1) Hyl.out)
          have HC4 := Lib.hid (H13.out.major HR13.out (fun hn k hk => (Hd.out hn k hk).1) Hyl.out)
          by_cases k0 : y.kind = 0
          · have k0' : (y.kind == 0) = true := by simpa using k0
            clear k0
            go_wp2_with (go_at_call 34; refine HC0.out.mono ?_; rintro e w14 ⟨rfl, x', h14⟩)
            exact ⟨⟨k + 1, x', hlt, by simp, h14⟩, by simp only [intOf]; omega⟩
          · have k0' : (y.kind == 0) = false := by simpa using k0
            clear k0
            by_cases k1 : y.kind = 1
            · have k1' : (y.kind == 1) = true := by simpa using k1
              clear k1
              go_wp2_with (go_at_call 19; refine HC1.out.mono ?_; rintro e w14 ⟨rfl, h14, -⟩)
              exact ⟨⟨k + 1, _, hlt, by simp, h14⟩, by simp only [intOf]; omega⟩
            · have k1' : (y.kind == 1) = false := by simpa using k1
              clear k1
              by_cases k3 : y.kind = 3
              · have k3' : (y.kind == 3) = true := by simpa using k3
                clear k3
                go_wp2_with (go_at_call 35; refine HC3.out.mono ?_; rintro e w14 ⟨v', rfl, -, ⟨x', h14, -⟩, -⟩)
                exact ⟨⟨k + 1, x', hlt, by simp, h14⟩, by simp only [intOf]; omega⟩
              · have k3' : (y.kind == 3) = false := by simpa using k3
                clear k3
                by_cases k4 : y.kind = 4
                · have k4' : (y.kind == 4) = true := by simpa using k4
                  clear k4
                  go_wp2_with (go_at_call 36; refine HC4.out.mono ?_; rintro e w14 ⟨v', rfl, -, ⟨x', h14, -⟩, -⟩)
                  exact ⟨⟨k + 1, x', hlt, by simp, h14⟩, by simp only [intOf]; omega⟩
                · have k4' : (y.kind == 4) = false := by simpa using k4
                  clear k4
                  go_wp2
                  exact ⟨⟨k + 1, x, hlt, by simp, H13⟩, by simp only [intOf]; omega⟩
      · gi_wp2
        obtain ⟨w10, hw10⟩ : ∃ W, w9.alloc (.cells #[.int .i64 0, .int .i64 0, .int .i64 0, .int .i64 0, .int .i64 0, .int .i64 0, .string ⟨#[]⟩, .int .i64 0, .int .i64 0, .slice none 0 0, .bool false] 35) = W := ⟨_, rfl⟩
        have hxa : Ext w9 w10 := by rw [← hw10]; exact (Ext.refl _).alloc _
        obtain ⟨bx, hbx⟩ : ∃ bx, w9.heap.size = bx := ⟨_, rfl⟩
        have HBX : Hid (Blk w10 bx #[.int .i64 0, .int .i64 0, .int .i64 0, .int .i64 0, .int .i64 0, .int .i64 0, .string ⟨#[]⟩, .int .i64 0, .int .i64 0, .slice none 0 0, .bool false] 35) := Lib.hid (by rw [← hw10, ← hbx]; exact Blk.new _ _ _)
        have Hbxs : Hid (w10.heap.size = bx + 1) := Lib.hid (by rw [← hw10, ← hbx]; simp)
        rw [hw10]
        try rw [hbx]
        have Hbx := Lib.hid hbx
        have HS : Hid (w10.cell? A = some (.int .i64 act.kind) ∧ w10.cell? { block := A.block, off := A.off + (0 + 1) } = some (.int .i64 act.a) ∧ w10.cell? { block := A.block, off := A.off + (1 + 1) } = some (.int .i64 act.b) ∧ w10.cell? { block := A.block, off := A.off + (2 + 1) } = some (.int .i64 act.w.tag) ∧ w10.cell? { block := A.block, off := A.off + (3 + 1) } = some (.int .i64 act.w.a) ∧ w10.cell? { block := A.block, off := A.off + (4 + 1) } = some (.int .i64 act.w.b) ∧ w10.cell? { block := A.block, off := A.off + (5 + 1) } = some (.string act.w.text) ∧ w10.cell? { block := A.block, off := A.off + (6 + 1) } = some (.int .i64 act.w.man) ∧ w10.cell? { block := A.block, off := A.off + (7 + 1) } = some (.int .i64 act.w.exp) ∧ w10.cell? { block := A.block, off := A.off + (8 + 1) } = some (.slice ra act.roots.length rc) ∧ w10.cell? { block := A.block, off := A.off + (9 + 1) } = some (.bool act.near)) := Lib.hid (by obtain ⟨d0, d1, d2, d3, d4, d5, d6, d7, d8, d9, d10⟩ := HS.out; exact ⟨hxa.cell d0, hxa.cell d1, hxa.cell d2, hxa.cell d3, hxa.cell d4, hxa.cell d5, hxa.cell d6, hxa.cell d7, hxa.cell d8, hxa.cell d9, hxa.cell d10⟩)
        have Hw10 : Hid (Heap w w10 hp young old x) := Lib.hid (H9.out.later hxa)
        have HEa := Lib.hid hxa
        clear hxa hw10 hbx
        refine And.intro (.inr HS.out) ?_
        refine anyS_only 1 rfl (by kernel_rfl) ?_
        gi_wp2_with fail
        refine (callsIn_WF (Hw10.out.blocks)).mono ?_
        rintro e w11 ⟨ba, bc, vs, rfl, hob, hxb⟩
        have HOB := Lib.hid (rdB_of_own hob)
        have HS : Hid (w11.cell? A = some (.int .i64 act.kind) ∧ w11.cell? { block := A.block, off := A.off + (0 + 1) } = some (.int .i64 act.a) ∧ w11.cell? { block := A.block, off := A.off + (1 + 1) } = some (.int .i64 act.b) ∧ w11.cell? { block := A.block, off := A.off + (2 + 1) } = some (.int .i64 act.w.tag) ∧ w11.cell? { block := A.block, off := A.off + (3 + 1) } = some (.int .i64 act.w.a) ∧ w11.cell? { block := A.block, off := A.off + (4 + 1) } = some (.int .i64 act.w.b) ∧ w11.cell? { block := A.block, off := A.off + (5 + 1) } = some (.string act.w.text) ∧ w11.cell? { block := A.block, off := A.off + (6 + 1) } = some (.int .i64 act.w.man) ∧ w11.cell? { block := A.block, off := A.off + (7 + 1) } = some (.int .i64 act.w.exp) ∧ w11.cell? { block := A.block, off := A.off + (8 + 1) } = some (.slice ra act.roots.length rc) ∧ w11.cell? { block := A.block, off := A.off + (9 + 1) } = some (.bool act.near)) := Lib.hid (by obtain ⟨d0, d1, d2, d3, d4, d5, d6, d7, d8, d9, d10⟩ := HS.out; exact ⟨hxb.cell d0, hxb.cell d1, hxb.cell d2, hxb.cell d3, hxb.cell d4, hxb.cell d5, hxb.cell d6, hxb.cell d7, hxb.cell d8, hxb.cell d9, hxb.cell d10⟩)
        have Hw11 : Hid (Heap w w11 hp young old x) := Lib.hid (Hw10.out.later hxb)
        have HEb := Lib.hid hxb
        clear hob hxb
        gi_wp2
        refine And.intro (.inr HS.out) ?_
        refine anyS_only 6 rfl (by kernel_rfl) ?_
        have HFX := Lib.hid (fixed_any (HOB.out) Hw11.out.all_len act ra rc (Hrr.out.ext Hw11.out.ext) hrl)
        gi_wp2_with fail
        refine (callsIn_WF HFX.out).mono ?_
        rintro e w12 ⟨ra2, rc2, rfl, hrd, hsrc, hxf⟩
        obtain ⟨y, hy⟩ : ∃ y, fixedA x.log.all act = y := ⟨_, rfl⟩
        rw [hy] at hrd hsrc ⊢
        have Hsrc := Lib.hid hsrc
        have HRD := Lib.hid hrd
        have Hyl : Hid (y.roots.length ≤ 1048576) := Lib.hid (by rw [← hy]; exact fixedA_len hrl)
        have HS : Hid (w12.cell? A = some (.int .i64 act.kind) ∧ w12.cell? { block := A.block, off := A.off + (0 + 1) } = some (.int .i64 act.a) ∧ w12.cell? { block := A.block, off := A.off + (1 + 1) } = some (.int .i64 act.b) ∧ w12.cell? { block := A.block, off := A.off + (2 + 1) } = some (.int .i64 act.w.tag) ∧ w12.cell? { block := A.block, off := A.off + (3 + 1) } = some (.int .i64 act.w.a) ∧ w12.cell? { block := A.block, off := A.off + (4 + 1) } = some (.int .i64 act.w.b) ∧ w12.cell? { block := A.block, off := A.off + (5 + 1) } = some (.string act.w.text) ∧ w12.cell? { block := A.block, off := A.off + (6 + 1) } = some (.int .i64 act.w.man) ∧ w12.cell? { block := A.block, off := A.off + (7 + 1) } = some (.int .i64 act.w.exp) ∧ w12.cell? { block := A.block, off := A.off + (8 + 1) } = some (.slice ra act.roots.length rc) ∧ w12.cell? { block := A.block, off := A.off + (9 + 1) } = some (.bool act.near)) := Lib.hid (by obtain ⟨d0, d1, d2, d3, d4, d5, d6, d7, d8, d9, d10⟩ := HS.out; exact ⟨hxf.cell d0, hxf.cell d1, hxf.cell d2, hxf.cell d3, hxf.cell d4, hxf.cell d5, hxf.cell d6, hxf.cell d7, hxf.cell d8, hxf.cell d9, hxf.cell d10⟩)
        have Hw12 : Hid (Heap w w12 hp young old x) := Lib.hid (Hw11.out.later hxf)
        have HEf := Lib.hid hxf
        clear hrd hsrc hxf HFX hy
        unfold Ac.cells
        gi_wp2
        refine And.intro (.inr HS.out) ?_
        have HBZ : Hid (Blk w12 bx #[.int .i64 0, .int .i64 0, .int .i64 0, .int .i64 0, .int .i64 0, .int .i64 0, .string ⟨#[]⟩, .int .i64 0, .int .i64 0, .slice none 0 0, .bool false] 35) := Lib.hid (HEf.out.blk (HEb.out.blk HBX.out id) id)
        have HRD2 : Hid (RdW w12 (.slice ra2 y.roots.length rc2) y.roots) := Lib.hid (HRD.out)
        have hnb1 : ¬ x.fp bx := fun hf => by have := H9.out.rep.fp_lt bx hf; have := Hbx.out; omega
        have hnb2 : w.heap.size ≤ bx := by have := H9.out.ext.size; have := Hbx.out; omega
        have hd : y.roots ≠ [] → ∀ k, (Value.slice ra2 y.roots.length rc2).ownBlock = some k → ¬ x.fp k ∧ k ≠ bx := by
          intro hn k hk
          have hlt := HRD.out.lt hn hk
          rcases Hsrc.out with ⟨e1, e⟩ | h
          · subst e1
            have hk' : (Value.slice ra2 act.roots.length rc).ownBlock = some k := by
              cases ra2 with
              | none => simp [Value.ownBlock] at hk
              | some a2 => simpa [Value.ownBlock] using hk
            have h1 := Hrr.out.lt (by rw [← e]; exact hn) hk'
            exact ⟨fun hf => by have := H9.out.rep.base_ k hf; omega, fun e2 => by omega⟩
          · cases ra2 with
            | none => simp [Value.ownBlock] at hk
            | some a2 =>
              have e2 : a2.block = k := by simpa [Value.ownBlock] using hk
              have h2 := h a2 rfl
              refine ⟨fun hf => ?_, fun e3 => ?_⟩
              · have := Hw11.out.rep.fp_lt k hf; omega
              · have := Hbxs.out; have := HEb.out.size; omega
        have Hnb : Hid (¬ x.fp bx ∧ w.heap.size ≤ bx) := Lib.hid ⟨hnb1, hnb2⟩
        have Hd := Lib.hid hd
        clear hnb1 hnb2 hd
        have z0 : w12.cell? ⟨bx, 0, none⟩ = some (.int .i64 0) := (HBZ.out.cell 0).trans rfl
        have y0 := HBZ.out.frozen 0
        have z1 : w12.cell? ⟨bx, 1, none⟩ = some (.int .i64 0) := (HBZ.out.cell 1).trans rfl
        have y1 := HBZ.out.frozen 1
        have z2 : w12.cell? ⟨bx, 2, none⟩ = some (.int .i64 0) := (HBZ.out.cell 2).trans rfl
        have y2 := HBZ.out.frozen 2
        have z3 : w12.cell? ⟨bx, 3, none⟩ = some (.int .i64 0) := (HBZ.out.cell 3).trans rfl
        have y3 := HBZ.out.frozen 3
        have z4 : w12.cell? ⟨bx, 4, none⟩ = some (.int .i64 0) := (HBZ.out.cell 4).trans rfl
        have y4 := HBZ.out.frozen 4
        have z5 : w12.cell? ⟨bx, 5, none⟩ = some (.int .i64 0) := (HBZ.out.cell 5).trans rfl
        have y5 := HBZ.out.frozen 5
        have z6 : w12.cell? ⟨bx, 6, none⟩ = some (.string ⟨#[]⟩) := (HBZ.out.cell 6).trans rfl
        have y6 := HBZ.out.frozen 6
        have z7 : w12.cell? ⟨bx, 7, none⟩ = some (.int .i64 0) := (HBZ.out.cell 7).trans rfl
        have y7 := HBZ.out.frozen 7
        have z8 : w12.cell? ⟨bx, 8, none⟩ = some (.int .i64 0) := (HBZ.out.cell 8).trans rfl
        have y8 := HBZ.out.frozen 8
        have z9 : w12.cell? ⟨bx, 9, none⟩ = some (.slice none 0 0) := (HBZ.out.cell 9).trans rfl
        have y9 := HBZ.out.frozen 9
        have z10 : w12.cell? ⟨bx, 10, none⟩ = some (.bool false) := (HBZ.out.cell 10).trans rfl
        have y10 := HBZ.out.frozen 10
        refine anyS_only 8 rfl (by kernel_rfl) ?_
        gi_wp2
        refine anyS_done (by kernel_rfl) ?_ _
        obtain ⟨hb11, hk11⟩ := set11 HBZ.out (.int .i64 y.kind) (.int .i64 y.a) (.int .i64 y.b) (.int .i64 y.w.tag) (.int .i64 y.w.a) (.int .i64 y.w.b) (.string y.w.text) (.int .i64 y.w.man) (.int .i64 y.w.exp) (.slice ra2 y.roots.length rc2) (.bool y.near)
        have H13 := Lib.hid (Hw12.out.keep1 hk11 Hnb.out.2 Hnb.out.1)
        have HB13 := Lib.hid hb11
        have HR13 := Lib.hid (HRD2.out.kept2 hk11 fun hn k hk e => (Hd.out hn k hk).2 e)
        clear hb11 hk11 z0 y0 z1 y1 z2 y2 z3 y3 z4 y4 z5 y5 z6 y6 z7 y7 z8 y8 z9 y9 z10 y10
        generalize (((((((((((w12.setCell ⟨bx, 0, none⟩ (.int .i64 y.kind)).setCell ⟨bx, 1, none⟩ (.int .i64 y.a)).setCell ⟨bx, 2, none⟩ (.int .i64 y.b)).setCell ⟨bx, 3, none⟩ (.int .i64 y.w.tag)).setCell ⟨bx, 4, none⟩ (.int .i64 y.w.a)).setCell ⟨bx, 5, none⟩ (.int .i64 y.w.b)).setCell ⟨bx, 6, none⟩ (.string y.w.text)).setCell ⟨bx, 7, none⟩ (.int .i64 y.w.man)).setCell ⟨bx, 8, none⟩ (.int .i64 y.w.exp)).setCell ⟨bx, 9, none⟩ (.slice ra2 y.roots.length rc2)).setCell ⟨bx, 10, none⟩ (.bool y.near)) = w13 at H13 HB13 HR13 ⊢
        have c0 : w13.cell? ⟨bx, 0, none⟩ = some (.int .i64 y.kind) := (HB13.out.cell 0).trans rfl
        have c1 : w13.cell? ⟨bx, 1, none⟩ = some (.int .i64 y.a) := (HB13.out.cell 1).trans rfl
        have c2 : w13.cell? ⟨bx, 2, none⟩ = some (.int .i64 y.b) := (HB13.out.cell 2).trans rfl
        have c3 : w13.cell? ⟨bx, 3, none⟩ = some (.int .i64 y.w.tag) := (HB13.out.cell 3).trans rfl
        have c4 : w13.cell? ⟨bx, 4, none⟩ = some (.int .i64 y.w.a) := (HB13.out.cell 4).trans rfl
        have c5 : w13.cell? ⟨bx, 5, none⟩ = some (.int .i64 y.w.b) := (HB13.out.cell 5).trans rfl
        have c6 : w13.cell? ⟨bx, 6, none⟩ = some (.string y.w.text) := (HB13.out.cell 6).trans rfl
        have c7 : w13.cell? ⟨bx, 7, none⟩ = some (.int .i64 y.w.man) := (HB13.out.cell 7).trans rfl
        have c8 : w13.cell? ⟨bx, 8, none⟩ = some (.int .i64 y.w.exp) := (HB13.out.cell 8).trans rfl
        have c9 : w13.cell? ⟨bx, 9, none⟩ = some (.slice ra2 y.roots.length rc2) := (HB13.out.cell 9).trans rfl
        have HC0 := Lib.hid (H13.out.alloc y.a y.b)
        have HC1 := Lib.hid (H13.out.store y.a y.b y.w)
        unfold Wd.val Wd.cells at HC1
        have HC3 := Lib.hid (H13.out.minor HR13.out (fun hn k hk => (Hd.out hn k hk).1) Hyl.out)
        have HC4 := Lib.hid (H13.out.major HR13.out (fun hn k hk => (Hd.out hn k hk).1) Hyl.out)
        by_cases k0 : y.kind = 0
        · have k0' : (y.kind == 0) = true := by simpa using k0
          clear k0
          go_wp2_with (go_at_call 34; refine HC0.out.mono ?_; rintro e w14 ⟨rfl, x', h14⟩)
          exact ⟨⟨k + 1, x', hlt, by simp, h14⟩, by simp only [intOf]; omega⟩
        · have k0' : (y.kind == 0) = false := by simpa using k0
          clear k0
          by_cases k1 : y.kind = 1
          · have k1' : (y.kind == 1) = true := by simpa using k1
            clear k1
            go_wp2_with (go_at_call 19; refine HC1.out.mono ?_; rintro e w14 ⟨rfl, h14, -⟩)
            exact ⟨⟨k + 1, _, hlt, by simp, h14⟩, by simp only [intOf]; omega⟩
          · have k1' : (y.kind == 1) = false := by simpa using k1
            clear k1
            by_cases k3 : y.kind = 3
            · have k3' : (y.kind == 3) = true := by simpa using k3
              clear k3
              go_wp2_with (go_at_call 35; refine HC3.out.mono ?_; rintro e w14 ⟨v', rfl, -, ⟨x', h14, -⟩, -⟩)
              exact ⟨⟨k + 1, x', hlt, by simp, h14⟩, by simp only [intOf]; omega⟩
            · have k3' : (y.kind == 3) = false := by simpa using k3
              clear k3
              by_cases k4 : y.kind = 4
              · have k4' : (y.kind == 4) = true := by simpa using k4
                clear k4
                go_wp2_with (go_at_call 36; refine HC4.out.mono ?_; rintro e w14 ⟨v', rfl, -, ⟨x', h14, -⟩, -⟩)
                exact ⟨⟨k + 1, x', hlt, by simp, h14⟩, by simp only [intOf]; omega⟩
              · have k4' : (y.kind == 4) = false := by simpa using k4
                clear k4
                go_wp2
                exact ⟨⟨k + 1, x, hlt, by simp, H13⟩, by simp only [intOf]; omega⟩
    · by_cases h1 : k < l.length
      · have h60 : ¬ k < 60 := fun h => hlt ⟨h1, h⟩
        clear hlt
        go_wp2
        go_ret2
        exact ⟨hp, x, rfl, H.out⟩
      · clear hlt
        go_wp2
        go_ret2
        exact ⟨hp, x, rfl, H.out⟩
end Go.Proofs.Ytikigppfnhilhaa
