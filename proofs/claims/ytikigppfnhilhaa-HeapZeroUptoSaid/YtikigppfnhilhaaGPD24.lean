/- sameBlocks. -/
import Derived.Test.YtikigppfnhilhaaGPD23
/- sameBlocks. -/
namespace Go.Proofs.Ytikigppfnhilhaa
open Go.RowKit Go.Instr
set_option linter.unusedVariables false
set_option linter.unusedSimpArgs false
attribute [local go_sem] Oper.semAt_some

theorem RdB.at_ {w : World} {ad : Addr} {n c : Nat} {bs : List Bk} (h : RdB w (.slice (some ad) n c) bs) {k : Nat} {b : Bk} (hb : bs[k]? = some b) {A : Addr} (hA : ad.add (k * 3) = A) :
    ∃ u, w.cell? A = some (.int .i64 b.at_) ∧ w.cell? { block := A.block, off := A.off + (0 + 1) } = some (.int .i64 b.kind) ∧ w.cell? { block := A.block, off := A.off + (1 + 1) } = some u ∧ RdW w u b.ws := by
  obtain ⟨a, c', e, h1, h2⟩ := h
  injection e with e _ _
  obtain ⟨u, u1, u2, u3, u4⟩ := h2 ad e.symm k b hb
  refine ⟨u, by rw [← hA]; exact u1, ?_, ?_, u4⟩
  · rw [← Addr.add_add, hA, Addr.add_succ'] at u2; exact u2
  · rw [← Addr.add_add, hA, Addr.add_succ'] at u3; exact u3

set_option maxRecDepth 100000 in
set_option maxHeartbeats 16000000 in
theorem sameBlocks_any {w : World} {a b : Value} {us vs : List Bk} (ha : RdB w a us) (hb : RdB w b vs) (hl : us.length ≤ 1000000) (hl' : vs.length ≤ 1000000)
    (hwu : ∀ x ∈ us, x.ws.length ≤ 2000000) (hwv : ∀ x ∈ vs, x.ws.length ≤ 2000000) :
    Calls Try.prog 15 #[a, b] w fun e w' => e = .returned (.bool (decide (us = vs))) ∧ Ext w w' := by
  have Ha := Lib.hid ha; have Hb := Lib.hid hb
  have Hwu := Lib.hid hwu; have Hwv := Lib.hid hwv
  clear hwu hwv
  obtain ⟨aa, ac, rfl, ha1, -⟩ := ha
  obtain ⟨ba, bc, rfl, hb1, -⟩ := hb
  by_cases hlen : us.length = vs.length
  · have HL := Lib.hid hlen
    rw [← hlen] at Hb
    clear hlen hl'
    have Ha1 := Lib.hid ha1; have Hb1 := Lib.hid hb1
    clear ha1 hb1
    rw [← HL.out]
    go_enter Try.func15, Try.ntmps15
    go_wp2
    go_loopw [5] (fun i wr => ∃ k : Nat, k ≤ us.length ∧ i = .int .i64 k ∧ Hid (Ext w wr) ∧ Hid (us.take k = vs.take k)) (fun i wr => us.length - (intOf i).toNat)
    case atStart => exact ⟨0, Nat.zero_le _, rfl, Ext.refl _, by simp [Hid]⟩
    case round =>
      obtain ⟨k, hk, rfl, HX, HT⟩ := hrel
      by_cases hlt : k < us.length
      · obtain ⟨u, hu⟩ : ∃ u, us[k]? = some u := ⟨_, List.getElem?_eq_getElem hlt⟩
        obtain ⟨v, hv⟩ : ∃ v, vs[k]? = some v := ⟨_, List.getElem?_eq_getElem (by rw [← HL.out]; exact hlt)⟩
        cases aa with
        | none => rw [Ha1.out rfl] at hlt; simp at hlt
        | some ad =>
        cases ba with
        | none => rw [Hb1.out rfl] at hv; simp at hv
        | some bd =>
        obtain ⟨A, hA⟩ : ∃ A, ad.add (k * 3) = A := ⟨_, rfl⟩
        obtain ⟨B, hB⟩ : ∃ B, bd.add (k * 3) = B := ⟨_, rfl⟩
        obtain ⟨su, a0, a1, a2, hsu⟩ := (Ha.out.ext HX.out.drew).at_ hu hA
        obtain ⟨sv, b0, b1, b2, hsv⟩ := (Hb.out.ext HX.out.drew).at_ hv hB
        have HS : Hid (wr.drew.cell? A = some (.int .i64 u.at_) ∧ wr.drew.cell? { block := A.block, off := A.off + (0 + 1) } = some (.int .i64 u.kind) ∧ wr.drew.cell? { block := A.block, off := A.off + (1 + 1) } = some su ∧ wr.drew.cell? B = some (.int .i64 v.at_) ∧ wr.drew.cell? { block := B.block, off := B.off + (0 + 1) } = some (.int .i64 v.kind) ∧ wr.drew.cell? { block := B.block, off := B.off + (1 + 1) } = some sv) := Lib.hid ⟨a0, a1, a2, b0, b1, b2⟩
        have HX9 : Hid (Ext w wr.drew) := Lib.hid HX.out.drew
        have Hsw : ∀ W, Ext wr.drew W → Calls Try.prog 25 #[su, sv] W _ := fun W hW => sameWords_any (hsu.ext hW) (hsv.ext hW) (Hwu.out u (List.mem_of_getElem? hu)) (Hwv.out v (List.mem_of_getElem? hv))
        have HSW := Lib.hid Hsw
        have Hu := Lib.hid hu; have Hv := Lib.hid hv
        clear hu hv Hsw hsu hsv a0 a1 a2 b0 b1 b2 HX
        go_wp2_with fail
        refine region_S_plain (n := 3) (fun V => V.cell? A = some (.int .i64 u.at_) ∧ V.cell? { block := A.block, off := A.off + (0 + 1) } = some (.int .i64 u.kind) ∧ V.cell? { block := A.block, off := A.off + (1 + 1) } = some su ∧ V.cell? B = some (.int .i64 v.at_) ∧ V.cell? { block := B.block, off := B.off + (0 + 1) } = some (.int .i64 v.kind) ∧ V.cell? { block := B.block, off := B.off + (1 + 1) } = some sv) 100 (by kernel_rfl) ?_
        generalize wr.drew = w9 at HX9 HS HSW ⊢
        refine anyS_quiet (a2 := ?a0) 0 rfl rfl rfl (by kernel_rfl) (by kernel_rfl) (by kernel_rfl) (by kernel_rfl) (by kernel_rfl) (by kernel_rfl) (fun _ _ _ _ h => h) HS.out ?h0 ?k0
        case h0 => intro W hW K hK; obtain ⟨d0, d1, d2, d3, d4, d5⟩ := hW; go_simp; exact hK
        refine anyS_quiet (a2 := ?a1) 1 rfl rfl rfl (by kernel_rfl) (by kernel_rfl) (by kernel_rfl) (by kernel_rfl) (by kernel_rfl) (by kernel_rfl) (fun _ _ _ _ h => h) HS.out ?h1 ?k1
        case h1 => intro W hW K hK; obtain ⟨d0, d1, d2, d3, d4, d5⟩ := hW; go_simp; exact hK
        refine anyS_quiet (a2 := ?a2) 2 rfl rfl rfl (by kernel_rfl) (by kernel_rfl) (by kernel_rfl) (by kernel_rfl) (by kernel_rfl) (by kernel_rfl) (fun _ _ _ _ h => h) HS.out ?h2 ?k2
        case h2 => intro W hW K hK; obtain ⟨d0, d1, d2, d3, d4, d5⟩ := hW; go_simp; exact hK
        refine anyS_quiet (a2 := ?a3) 3 rfl rfl rfl (by kernel_rfl) (by kernel_rfl) (by kernel_rfl) (by kernel_rfl) (by kernel_rfl) (by kernel_rfl) (fun _ _ _ _ h => h) HS.out ?h3 ?k3
        case h3 => intro W hW K hK; obtain ⟨d0, d1, d2, d3, d4, d5⟩ := hW; go_simp; exact hK
        refine anyS_quiet (a2 := ?a4) 4 rfl rfl rfl (by kernel_rfl) (by kernel_rfl) (by kernel_rfl) (by kernel_rfl) (by kernel_rfl) (by kernel_rfl) (fun _ _ _ _ h => h) HS.out ?h4 ?k4
        case h4 => intro W hW K hK; obtain ⟨d0, d1, d2, d3, d4, d5⟩ := hW; go_simp; exact hK
        refine anyS_quiet (a2 := ?a5) 5 rfl rfl rfl (by kernel_rfl) (by kernel_rfl) (by kernel_rfl) (by kernel_rfl) (by kernel_rfl) (by kernel_rfl) (fun _ _ _ _ h => h) HS.out ?h5 ?k5
        case h5 => intro W hW K hK; obtain ⟨d0, d1, d2, d3, d4, d5⟩ := hW; go_simp; exact hK
        refine anyS_quiet (a2 := ?a6) 6 rfl rfl rfl (by kernel_rfl) (by kernel_rfl) (by kernel_rfl) (by kernel_rfl) (by kernel_rfl) (by kernel_rfl) (fun _ _ _ _ h => h) HS.out ?h6 ?k6
        case h6 => intro W hW K hK; obtain ⟨d0, d1, d2, d3, d4, d5⟩ := hW; go_simp; exact hK
        refine anyS_quiet (a2 := ?a7) 7 rfl rfl rfl (by kernel_rfl) (by kernel_rfl) (by kernel_rfl) (by kernel_rfl) (by kernel_rfl) (by kernel_rfl) (fun _ _ _ _ h => h) HS.out ?h7 ?k7
        case h7 => intro W hW K hK; obtain ⟨d0, d1, d2, d3, d4, d5⟩ := hW; go_simp; exact hK
        refine anyS_quiet (a2 := ?a8) 8 rfl rfl rfl (by kernel_rfl) (by kernel_rfl) (by kernel_rfl) (by kernel_rfl) (by kernel_rfl) (by kernel_rfl) (fun _ _ _ _ h => h) HS.out ?h8 ?k8
        case h8 => intro W hW K hK; obtain ⟨d0, d1, d2, d3, d4, d5⟩ := hW; go_simp; exact hK
        refine anyS_quiet (a2 := ?a9) 9 rfl rfl rfl (by kernel_rfl) (by kernel_rfl) (by kernel_rfl) (by kernel_rfl) (by kernel_rfl) (by kernel_rfl) (fun _ _ _ _ h => h) HS.out ?h9 ?k9
        case h9 => intro W hW K hK; obtain ⟨d0, d1, d2, d3, d4, d5⟩ := hW; go_simp; exact hK
        refine anyS_quiet (a2 := ?a10) 10 rfl rfl rfl (by kernel_rfl) (by kernel_rfl) (by kernel_rfl) (by kernel_rfl) (by kernel_rfl) (by kernel_rfl) (fun _ _ _ _ h => h) HS.out ?h10 ?k10
        case h10 => intro W hW K hK; obtain ⟨d0, d1, d2, d3, d4, d5⟩ := hW; go_simp; exact hK
        cases h1 : (u.at_ != v.at_) with
        | true =>
          have H1 : Hid (u.at_ ≠ v.at_) := Lib.hid (by simpa using h1)
          clear h1
          refine anyS_quiet (a2 := ?ab_11) 11 rfl rfl rfl (by kernel_rfl) (by kernel_rfl) (by kernel_rfl) (by kernel_rfl) (by kernel_rfl) (by kernel_rfl) (fun _ _ _ _ h => h) HS.out ?hb_11 ?kb_11
          case hb_11 => intro W hW K hK; obtain ⟨d0, d1, d2, d3, d4, d5⟩ := hW; go_simp; exact hK
          refine anyS_quiet (a2 := ?ab_12) 12 rfl rfl rfl (by kernel_rfl) (by kernel_rfl) (by kernel_rfl) (by kernel_rfl) (by kernel_rfl) (by kernel_rfl) (fun _ _ _ _ h => h) HS.out ?hb_12 ?kb_12
          case hb_12 => intro W hW K hK; obtain ⟨d0, d1, d2, d3, d4, d5⟩ := hW; go_simp; exact hK
          refine anyS_quiet (a2 := ?ab_13) 13 rfl rfl rfl (by kernel_rfl) (by kernel_rfl) (by kernel_rfl) (by kernel_rfl) (by kernel_rfl) (by kernel_rfl) (fun _ _ _ _ h => h) HS.out ?hb_13 ?kb_13
          case hb_13 => intro W hW K hK; obtain ⟨d0, d1, d2, d3, d4, d5⟩ := hW; go_simp; exact hK
          refine anyS_quiet (a2 := ?ab_14) 14 rfl rfl rfl (by kernel_rfl) (by kernel_rfl) (by kernel_rfl) (by kernel_rfl) (by kernel_rfl) (by kernel_rfl) (fun _ _ _ _ h => h) HS.out ?hb_14 ?kb_14
          case hb_14 => intro W hW K hK; obtain ⟨d0, d1, d2, d3, d4, d5⟩ := hW; go_simp; exact hK
          refine anyS_quiet (a2 := ?ab_15) 15 rfl rfl rfl (by kernel_rfl) (by kernel_rfl) (by kernel_rfl) (by kernel_rfl) (by kernel_rfl) (by kernel_rfl) (fun _ _ _ _ h => h) HS.out ?hb_15 ?kb_15
          case hb_15 => intro W hW K hK; obtain ⟨d0, d1, d2, d3, d4, d5⟩ := hW; go_simp; exact hK
          refine anyS_quiet (a2 := ?ab_16) 16 rfl rfl rfl (by kernel_rfl) (by kernel_rfl) (by kernel_rfl) (by kernel_rfl) (by kernel_rfl) (by kernel_rfl) (fun _ _ _ _ h => h) HS.out ?hb_16 ?kb_16
          case hb_16 => intro W hW K hK; obtain ⟨d0, d1, d2, d3, d4, d5⟩ := hW; go_simp; exact hK
          refine anyS_quiet (a2 := ?ab_17) 17 rfl rfl rfl (by kernel_rfl) (by kernel_rfl) (by kernel_rfl) (by kernel_rfl) (by kernel_rfl) (by kernel_rfl) (fun _ _ _ _ h => h) HS.out ?hb_17 ?kb_17
          case hb_17 => intro W hW K hK; obtain ⟨d0, d1, d2, d3, d4, d5⟩ := hW; go_simp; exact hK
          refine anyS_quiet (a2 := ?ab_18) 18 rfl rfl rfl (by kernel_rfl) (by kernel_rfl) (by kernel_rfl) (by kernel_rfl) (by kernel_rfl) (by kernel_rfl) (fun _ _ _ _ h => h) HS.out ?hb_18 ?kb_18
          case hb_18 => intro W hW K hK; obtain ⟨d0, d1, d2, d3, d4, d5⟩ := hW; go_simp; exact hK
          refine anyS_quiet (a2 := ?ab_19) 19 rfl rfl rfl (by kernel_rfl) (by kernel_rfl) (by kernel_rfl) (by kernel_rfl) (by kernel_rfl) (by kernel_rfl) (fun _ _ _ _ h => h) HS.out ?hb_19 ?kb_19
          case hb_19 => intro W hW K hK; obtain ⟨d0, d1, d2, d3, d4, d5⟩ := hW; go_simp; exact hK
          refine anyS_quiet (a2 := ?ab_20) 20 rfl rfl rfl (by kernel_rfl) (by kernel_rfl) (by kernel_rfl) (by kernel_rfl) (by kernel_rfl) (by kernel_rfl) (fun _ _ _ _ h => h) HS.out ?hb_20 ?kb_20
          case hb_20 => intro W hW K hK; obtain ⟨d0, d1, d2, d3, d4, d5⟩ := hW; go_simp; exact hK
          refine anyS_quiet (a2 := ?ab_21) 21 rfl rfl rfl (by kernel_rfl) (by kernel_rfl) (by kernel_rfl) (by kernel_rfl) (by kernel_rfl) (by kernel_rfl) (fun _ _ _ _ h => h) HS.out ?hb_21 ?kb_21
          case hb_21 => intro W hW K hK; obtain ⟨d0, d1, d2, d3, d4, d5⟩ := hW; go_simp; exact hK
          refine anyS_quiet (a2 := ?ab_22) 22 rfl rfl rfl (by kernel_rfl) (by kernel_rfl) (by kernel_rfl) (by kernel_rfl) (by kernel_rfl) (by kernel_rfl) (fun _ _ _ _ h => h) HS.out ?hb_22 ?kb_22
          case hb_22 => intro W hW K hK; obtain ⟨d0, d1, d2, d3, d4, d5⟩ := hW; go_simp; exact hK
          refine anyS_quiet (a2 := ?ab_23) 23 rfl rfl rfl (by kernel_rfl) (by kernel_rfl) (by kernel_rfl) (by kernel_rfl) (by kernel_rfl) (by kernel_rfl) (fun _ _ _ _ h => h) HS.out ?hb_23 ?kb_23
          case hb_23 => intro W hW K hK; obtain ⟨d0, d1, d2, d3, d4, d5⟩ := hW; go_simp; exact hK
          refine anyS_quiet (a2 := ?ab_24) 24 rfl rfl rfl (by kernel_rfl) (by kernel_rfl) (by kernel_rfl) (by kernel_rfl) (by kernel_rfl) (by kernel_rfl) (fun _ _ _ _ h => h) HS.out ?hb_24 ?kb_24
          case hb_24 => intro W hW K hK; obtain ⟨d0, d1, d2, d3, d4, d5⟩ := hW; go_simp; exact hK
          refine anyS_quiet (a2 := ?ab_25) 25 rfl rfl rfl (by kernel_rfl) (by kernel_rfl) (by kernel_rfl) (by kernel_rfl) (by kernel_rfl) (by kernel_rfl) (fun _ _ _ _ h => h) HS.out ?hb_25 ?kb_25
          case hb_25 => intro W hW K hK; obtain ⟨d0, d1, d2, d3, d4, d5⟩ := hW; go_simp; exact hK
          refine anyS_quiet (a2 := ?ab_26) 26 rfl rfl rfl (by kernel_rfl) (by kernel_rfl) (by kernel_rfl) (by kernel_rfl) (by kernel_rfl) (by kernel_rfl) (fun _ _ _ _ h => h) HS.out ?hb_26 ?kb_26
          case hb_26 => intro W hW K hK; obtain ⟨d0, d1, d2, d3, d4, d5⟩ := hW; go_simp; exact hK
          refine anyS_quiet (a2 := ?ab_27) 27 rfl rfl rfl (by kernel_rfl) (by kernel_rfl) (by kernel_rfl) (by kernel_rfl) (by kernel_rfl) (by kernel_rfl) (fun _ _ _ _ h => h) HS.out ?hb_27 ?kb_27
          case hb_27 => intro W hW K hK; obtain ⟨d0, d1, d2, d3, d4, d5⟩ := hW; go_simp; exact hK
          refine anyS_quiet (a2 := ?ab_28) 28 rfl rfl rfl (by kernel_rfl) (by kernel_rfl) (by kernel_rfl) (by kernel_rfl) (by kernel_rfl) (by kernel_rfl) (fun _ _ _ _ h => h) HS.out ?hb_28 ?kb_28
          case hb_28 => intro W hW K hK; obtain ⟨d0, d1, d2, d3, d4, d5⟩ := hW; go_simp; exact hK
          refine anyS_quiet (a2 := ?ab_29) 29 rfl rfl rfl (by kernel_rfl) (by kernel_rfl) (by kernel_rfl) (by kernel_rfl) (by kernel_rfl) (by kernel_rfl) (fun _ _ _ _ h => h) HS.out ?hb_29 ?kb_29
          case hb_29 => intro W hW K hK; obtain ⟨d0, d1, d2, d3, d4, d5⟩ := hW; go_simp; exact hK
          refine anyS_quiet (a2 := ?ab_30) 30 rfl rfl rfl (by kernel_rfl) (by kernel_rfl) (by kernel_rfl) (by kernel_rfl) (by kernel_rfl) (by kernel_rfl) (fun _ _ _ _ h => h) HS.out ?hb_30 ?kb_30
          case hb_30 => intro W hW K hK; obtain ⟨d0, d1, d2, d3, d4, d5⟩ := hW; go_simp; exact hK
          refine anyS_quiet (a2 := ?ab_31) 31 rfl rfl rfl (by kernel_rfl) (by kernel_rfl) (by kernel_rfl) (by kernel_rfl) (by kernel_rfl) (by kernel_rfl) (fun _ _ _ _ h => h) HS.out ?hb_31 ?kb_31
          case hb_31 => intro W hW K hK; obtain ⟨d0, d1, d2, d3, d4, d5⟩ := hW; go_simp; exact hK
          refine anyS_quiet (a2 := ?ab_32) 32 rfl rfl rfl (by kernel_rfl) (by kernel_rfl) (by kernel_rfl) (by kernel_rfl) (by kernel_rfl) (by kernel_rfl) (fun _ _ _ _ h => h) HS.out ?hb_32 ?kb_32
          case hb_32 => intro W hW K hK; obtain ⟨d0, d1, d2, d3, d4, d5⟩ := hW; go_simp; exact hK
          refine anyS_quiet (a2 := ?ab_33) 33 rfl rfl rfl (by kernel_rfl) (by kernel_rfl) (by kernel_rfl) (by kernel_rfl) (by kernel_rfl) (by kernel_rfl) (fun _ _ _ _ h => h) HS.out ?hb_33 ?kb_33
          case hb_33 => intro W hW K hK; obtain ⟨d0, d1, d2, d3, d4, d5⟩ := hW; go_simp; exact hK
          refine anyS_quiet (a2 := ?ab_34) 34 rfl rfl rfl (by kernel_rfl) (by kernel_rfl) (by kernel_rfl) (by kernel_rfl) (by kernel_rfl) (by kernel_rfl) (fun _ _ _ _ h => h) HS.out ?hb_34 ?kb_34
          case hb_34 => intro W hW K hK; obtain ⟨d0, d1, d2, d3, d4, d5⟩ := hW; go_simp; exact hK
          refine anyS_only 35 rfl (by kernel_rfl) ?_
          gi_wp2
          refine And.intro (.inr HS.out) ?_
          refine anyS_quiet (a2 := ?ac_36) 36 rfl rfl rfl (by kernel_rfl) (by kernel_rfl) (by kernel_rfl) (by kernel_rfl) (by kernel_rfl) (by kernel_rfl) (fun _ _ _ _ h => h) HS.out ?hc_36 ?kc_36
          case hc_36 => intro W hW K hK; obtain ⟨d0, d1, d2, d3, d4, d5⟩ := hW; go_simp; exact hK
          refine anyS_quiet (a2 := ?ac_37) 37 rfl rfl rfl (by kernel_rfl) (by kernel_rfl) (by kernel_rfl) (by kernel_rfl) (by kernel_rfl) (by kernel_rfl) (fun _ _ _ _ h => h) HS.out ?hc_37 ?kc_37
          case hc_37 => intro W hW K hK; obtain ⟨d0, d1, d2, d3, d4, d5⟩ := hW; go_simp; exact hK
          refine anyS_done (by kernel_rfl) ?_ _
          clear hA hB
          go_wp2
          go_ret
          refine ⟨?_, HX9.out⟩
          rw [decide_eq_false]; rfl
          rintro rfl
          have := Hu.out; rw [Hv.out] at this; injection this with this; exact H1.out (by rw [this])
        | false =>
          have H1 : Hid (u.at_ = v.at_) := Lib.hid (by simpa using h1)
          clear h1
          refine anyS_quiet (a2 := ?ad_11) 11 rfl rfl rfl (by kernel_rfl) (by kernel_rfl) (by kernel_rfl) (by kernel_rfl) (by kernel_rfl) (by kernel_rfl) (fun _ _ _ _ h => h) HS.out ?hd_11 ?kd_11
          case hd_11 => intro W hW K hK; obtain ⟨d0, d1, d2, d3, d4, d5⟩ := hW; go_simp; exact hK
          refine anyS_quiet (a2 := ?ad_12) 12 rfl rfl rfl (by kernel_rfl) (by kernel_rfl) (by kernel_rfl) (by kernel_rfl) (by kernel_rfl) (by kernel_rfl) (fun _ _ _ _ h => h) HS.out ?hd_12 ?kd_12
          case hd_12 => intro W hW K hK; obtain ⟨d0, d1, d2, d3, d4, d5⟩ := hW; go_simp; exact hK
          refine anyS_quiet (a2 := ?ad_13) 13 rfl rfl rfl (by kernel_rfl) (by kernel_rfl) (by kernel_rfl) (by kernel_rfl) (by kernel_rfl) (by kernel_rfl) (fun _ _ _ _ h => h) HS.out ?hd_13 ?kd_13
          case hd_13 => intro W hW K hK; obtain ⟨d0, d1, d2, d3, d4, d5⟩ := hW; go_simp; exact hK
          refine anyS_quiet (a2 := ?ad_14) 14 rfl rfl rfl (by kernel_rfl) (by kernel_rfl) (by kernel_rfl) (by kernel_rfl) (by kernel_rfl) (by kernel_rfl) (fun _ _ _ _ h => h) HS.out ?hd_14 ?kd_14
          case hd_14 => intro W hW K hK; obtain ⟨d0, d1, d2, d3, d4, d5⟩ := hW; go_simp; exact hK
          refine anyS_quiet (a2 := ?ad_15) 15 rfl rfl rfl (by kernel_rfl) (by kernel_rfl) (by kernel_rfl) (by kernel_rfl) (by kernel_rfl) (by kernel_rfl) (fun _ _ _ _ h => h) HS.out ?hd_15 ?kd_15
          case hd_15 => intro W hW K hK; obtain ⟨d0, d1, d2, d3, d4, d5⟩ := hW; go_simp; exact hK
          refine anyS_quiet (a2 := ?ad_16) 16 rfl rfl rfl (by kernel_rfl) (by kernel_rfl) (by kernel_rfl) (by kernel_rfl) (by kernel_rfl) (by kernel_rfl) (fun _ _ _ _ h => h) HS.out ?hd_16 ?kd_16
          case hd_16 => intro W hW K hK; obtain ⟨d0, d1, d2, d3, d4, d5⟩ := hW; go_simp; exact hK
          refine anyS_quiet (a2 := ?ad_17) 17 rfl rfl rfl (by kernel_rfl) (by kernel_rfl) (by kernel_rfl) (by kernel_rfl) (by kernel_rfl) (by kernel_rfl) (fun _ _ _ _ h => h) HS.out ?hd_17 ?kd_17
          case hd_17 => intro W hW K hK; obtain ⟨d0, d1, d2, d3, d4, d5⟩ := hW; go_simp; exact hK
          refine anyS_quiet (a2 := ?ad_18) 18 rfl rfl rfl (by kernel_rfl) (by kernel_rfl) (by kernel_rfl) (by kernel_rfl) (by kernel_rfl) (by kernel_rfl) (fun _ _ _ _ h => h) HS.out ?hd_18 ?kd_18
          case hd_18 => intro W hW K hK; obtain ⟨d0, d1, d2, d3, d4, d5⟩ := hW; go_simp; exact hK
          refine anyS_quiet (a2 := ?ad_19) 19 rfl rfl rfl (by kernel_rfl) (by kernel_rfl) (by kernel_rfl) (by kernel_rfl) (by kernel_rfl) (by kernel_rfl) (fun _ _ _ _ h => h) HS.out ?hd_19 ?kd_19
          case hd_19 => intro W hW K hK; obtain ⟨d0, d1, d2, d3, d4, d5⟩ := hW; go_simp; exact hK
          refine anyS_quiet (a2 := ?ad_20) 20 rfl rfl rfl (by kernel_rfl) (by kernel_rfl) (by kernel_rfl) (by kernel_rfl) (by kernel_rfl) (by kernel_rfl) (fun _ _ _ _ h => h) HS.out ?hd_20 ?kd_20
          case hd_20 => intro W hW K hK; obtain ⟨d0, d1, d2, d3, d4, d5⟩ := hW; go_simp; exact hK
          refine anyS_quiet (a2 := ?ad_21) 21 rfl rfl rfl (by kernel_rfl) (by kernel_rfl) (by kernel_rfl) (by kernel_rfl) (by kernel_rfl) (by kernel_rfl) (fun _ _ _ _ h => h) HS.out ?hd_21 ?kd_21
          case hd_21 => intro W hW K hK; obtain ⟨d0, d1, d2, d3, d4, d5⟩ := hW; go_simp; exact hK
          refine anyS_quiet (a2 := ?ad_22) 22 rfl rfl rfl (by kernel_rfl) (by kernel_rfl) (by kernel_rfl) (by kernel_rfl) (by kernel_rfl) (by kernel_rfl) (fun _ _ _ _ h => h) HS.out ?hd_22 ?kd_22
          case hd_22 => intro W hW K hK; obtain ⟨d0, d1, d2, d3, d4, d5⟩ := hW; go_simp; exact hK
          cases h2 : (u.kind != v.kind) with
          | true =>
            have H2 : Hid (u.kind ≠ v.kind) := Lib.hid (by simpa using h2)
            clear h2
            refine anyS_quiet (a2 := ?ae_23) 23 rfl rfl rfl (by kernel_rfl) (by kernel_rfl) (by kernel_rfl) (by kernel_rfl) (by kernel_rfl) (by kernel_rfl) (fun _ _ _ _ h => h) HS.out ?he_23 ?ke_23
            case he_23 => intro W hW K hK; obtain ⟨d0, d1, d2, d3, d4, d5⟩ := hW; go_simp; exact hK
            refine anyS_quiet (a2 := ?ae_24) 24 rfl rfl rfl (by kernel_rfl) (by kernel_rfl) (by kernel_rfl) (by kernel_rfl) (by kernel_rfl) (by kernel_rfl) (fun _ _ _ _ h => h) HS.out ?he_24 ?ke_24
            case he_24 => intro W hW K hK; obtain ⟨d0, d1, d2, d3, d4, d5⟩ := hW; go_simp; exact hK
            refine anyS_quiet (a2 := ?ae_25) 25 rfl rfl rfl (by kernel_rfl) (by kernel_rfl) (by kernel_rfl) (by kernel_rfl) (by kernel_rfl) (by kernel_rfl) (fun _ _ _ _ h => h) HS.out ?he_25 ?ke_25
            case he_25 => intro W hW K hK; obtain ⟨d0, d1, d2, d3, d4, d5⟩ := hW; go_simp; exact hK
            refine anyS_quiet (a2 := ?ae_26) 26 rfl rfl rfl (by kernel_rfl) (by kernel_rfl) (by kernel_rfl) (by kernel_rfl) (by kernel_rfl) (by kernel_rfl) (fun _ _ _ _ h => h) HS.out ?he_26 ?ke_26
            case he_26 => intro W hW K hK; obtain ⟨d0, d1, d2, d3, d4, d5⟩ := hW; go_simp; exact hK
            refine anyS_quiet (a2 := ?ae_27) 27 rfl rfl rfl (by kernel_rfl) (by kernel_rfl) (by kernel_rfl) (by kernel_rfl) (by kernel_rfl) (by kernel_rfl) (fun _ _ _ _ h => h) HS.out ?he_27 ?ke_27
            case he_27 => intro W hW K hK; obtain ⟨d0, d1, d2, d3, d4, d5⟩ := hW; go_simp; exact hK
            refine anyS_quiet (a2 := ?ae_28) 28 rfl rfl rfl (by kernel_rfl) (by kernel_rfl) (by kernel_rfl) (by kernel_rfl) (by kernel_rfl) (by kernel_rfl) (fun _ _ _ _ h => h) HS.out ?he_28 ?ke_28
            case he_28 => intro W hW K hK; obtain ⟨d0, d1, d2, d3, d4, d5⟩ := hW; go_simp; exact hK
            refine anyS_quiet (a2 := ?ae_29) 29 rfl rfl rfl (by kernel_rfl) (by kernel_rfl) (by kernel_rfl) (by kernel_rfl) (by kernel_rfl) (by kernel_rfl) (fun _ _ _ _ h => h) HS.out ?he_29 ?ke_29
            case he_29 => intro W hW K hK; obtain ⟨d0, d1, d2, d3, d4, d5⟩ := hW; go_simp; exact hK
            refine anyS_quiet (a2 := ?ae_30) 30 rfl rfl rfl (by kernel_rfl) (by kernel_rfl) (by kernel_rfl) (by kernel_rfl) (by kernel_rfl) (by kernel_rfl) (fun _ _ _ _ h => h) HS.out ?he_30 ?ke_30
            case he_30 => intro W hW K hK; obtain ⟨d0, d1, d2, d3, d4, d5⟩ := hW; go_simp; exact hK
            refine anyS_quiet (a2 := ?ae_31) 31 rfl rfl rfl (by kernel_rfl) (by kernel_rfl) (by kernel_rfl) (by kernel_rfl) (by kernel_rfl) (by kernel_rfl) (fun _ _ _ _ h => h) HS.out ?he_31 ?ke_31
            case he_31 => intro W hW K hK; obtain ⟨d0, d1, d2, d3, d4, d5⟩ := hW; go_simp; exact hK
            refine anyS_quiet (a2 := ?ae_32) 32 rfl rfl rfl (by kernel_rfl) (by kernel_rfl) (by kernel_rfl) (by kernel_rfl) (by kernel_rfl) (by kernel_rfl) (fun _ _ _ _ h => h) HS.out ?he_32 ?ke_32
            case he_32 => intro W hW K hK; obtain ⟨d0, d1, d2, d3, d4, d5⟩ := hW; go_simp; exact hK
            refine anyS_quiet (a2 := ?ae_33) 33 rfl rfl rfl (by kernel_rfl) (by kernel_rfl) (by kernel_rfl) (by kernel_rfl) (by kernel_rfl) (by kernel_rfl) (fun _ _ _ _ h => h) HS.out ?he_33 ?ke_33
            case he_33 => intro W hW K hK; obtain ⟨d0, d1, d2, d3, d4, d5⟩ := hW; go_simp; exact hK
            refine anyS_quiet (a2 := ?ae_34) 34 rfl rfl rfl (by kernel_rfl) (by kernel_rfl) (by kernel_rfl) (by kernel_rfl) (by kernel_rfl) (by kernel_rfl) (fun _ _ _ _ h => h) HS.out ?he_34 ?ke_34
            case he_34 => intro W hW K hK; obtain ⟨d0, d1, d2, d3, d4, d5⟩ := hW; go_simp; exact hK
            refine anyS_only 35 rfl (by kernel_rfl) ?_
            gi_wp2
            refine And.intro (.inr HS.out) ?_
            refine anyS_quiet (a2 := ?af_36) 36 rfl rfl rfl (by kernel_rfl) (by kernel_rfl) (by kernel_rfl) (by kernel_rfl) (by kernel_rfl) (by kernel_rfl) (fun _ _ _ _ h => h) HS.out ?hf_36 ?kf_36
            case hf_36 => intro W hW K hK; obtain ⟨d0, d1, d2, d3, d4, d5⟩ := hW; go_simp; exact hK
            refine anyS_quiet (a2 := ?af_37) 37 rfl rfl rfl (by kernel_rfl) (by kernel_rfl) (by kernel_rfl) (by kernel_rfl) (by kernel_rfl) (by kernel_rfl) (fun _ _ _ _ h => h) HS.out ?hf_37 ?kf_37
            case hf_37 => intro W hW K hK; obtain ⟨d0, d1, d2, d3, d4, d5⟩ := hW; go_simp; exact hK
            refine anyS_done (by kernel_rfl) ?_ _
            clear hA hB
            go_wp2
            go_ret
            refine ⟨?_, HX9.out⟩
            rw [decide_eq_false]; rfl
            rintro rfl
            have := Hu.out; rw [Hv.out] at this; injection this with this; exact H2.out (by rw [this])
          | false =>
            have H2 : Hid (u.kind = v.kind) := Lib.hid (by simpa using h2)
            clear h2
            refine anyS_quiet (a2 := ?ag_23) 23 rfl rfl rfl (by kernel_rfl) (by kernel_rfl) (by kernel_rfl) (by kernel_rfl) (by kernel_rfl) (by kernel_rfl) (fun _ _ _ _ h => h) HS.out ?hg_23 ?kg_23
            case hg_23 => intro W hW K hK; obtain ⟨d0, d1, d2, d3, d4, d5⟩ := hW; go_simp; exact hK
            refine anyS_quiet (a2 := ?ag_24) 24 rfl rfl rfl (by kernel_rfl) (by kernel_rfl) (by kernel_rfl) (by kernel_rfl) (by kernel_rfl) (by kernel_rfl) (fun _ _ _ _ h => h) HS.out ?hg_24 ?kg_24
            case hg_24 => intro W hW K hK; obtain ⟨d0, d1, d2, d3, d4, d5⟩ := hW; go_simp; exact hK
            refine anyS_quiet (a2 := ?ag_25) 25 rfl rfl rfl (by kernel_rfl) (by kernel_rfl) (by kernel_rfl) (by kernel_rfl) (by kernel_rfl) (by kernel_rfl) (fun _ _ _ _ h => h) HS.out ?hg_25 ?kg_25
            case hg_25 => intro W hW K hK; obtain ⟨d0, d1, d2, d3, d4, d5⟩ := hW; go_simp; exact hK
            refine anyS_quiet (a2 := ?ag_26) 26 rfl rfl rfl (by kernel_rfl) (by kernel_rfl) (by kernel_rfl) (by kernel_rfl) (by kernel_rfl) (by kernel_rfl) (fun _ _ _ _ h => h) HS.out ?hg_26 ?kg_26
            case hg_26 => intro W hW K hK; obtain ⟨d0, d1, d2, d3, d4, d5⟩ := hW; go_simp; exact hK
            refine anyS_quiet (a2 := ?ag_27) 27 rfl rfl rfl (by kernel_rfl) (by kernel_rfl) (by kernel_rfl) (by kernel_rfl) (by kernel_rfl) (by kernel_rfl) (fun _ _ _ _ h => h) HS.out ?hg_27 ?kg_27
            case hg_27 => intro W hW K hK; obtain ⟨d0, d1, d2, d3, d4, d5⟩ := hW; go_simp; exact hK
            refine anyS_quiet (a2 := ?ag_28) 28 rfl rfl rfl (by kernel_rfl) (by kernel_rfl) (by kernel_rfl) (by kernel_rfl) (by kernel_rfl) (by kernel_rfl) (fun _ _ _ _ h => h) HS.out ?hg_28 ?kg_28
            case hg_28 => intro W hW K hK; obtain ⟨d0, d1, d2, d3, d4, d5⟩ := hW; go_simp; exact hK
            refine anyS_quiet (a2 := ?ag_29) 29 rfl rfl rfl (by kernel_rfl) (by kernel_rfl) (by kernel_rfl) (by kernel_rfl) (by kernel_rfl) (by kernel_rfl) (fun _ _ _ _ h => h) HS.out ?hg_29 ?kg_29
            case hg_29 => intro W hW K hK; obtain ⟨d0, d1, d2, d3, d4, d5⟩ := hW; go_simp; exact hK
            refine anyS_quiet (a2 := ?ag_30) 30 rfl rfl rfl (by kernel_rfl) (by kernel_rfl) (by kernel_rfl) (by kernel_rfl) (by kernel_rfl) (by kernel_rfl) (fun _ _ _ _ h => h) HS.out ?hg_30 ?kg_30
            case hg_30 => intro W hW K hK; obtain ⟨d0, d1, d2, d3, d4, d5⟩ := hW; go_simp; exact hK
            refine anyS_quiet (a2 := ?ag_31) 31 rfl rfl rfl (by kernel_rfl) (by kernel_rfl) (by kernel_rfl) (by kernel_rfl) (by kernel_rfl) (by kernel_rfl) (fun _ _ _ _ h => h) HS.out ?hg_31 ?kg_31
            case hg_31 => intro W hW K hK; obtain ⟨d0, d1, d2, d3, d4, d5⟩ := hW; go_simp; exact hK
            refine anyS_quiet (a2 := ?ag_32) 32 rfl rfl rfl (by kernel_rfl) (by kernel_rfl) (by kernel_rfl) (by kernel_rfl) (by kernel_rfl) (by kernel_rfl) (fun _ _ _ _ h => h) HS.out ?hg_32 ?kg_32
            case hg_32 => intro W hW K hK; obtain ⟨d0, d1, d2, d3, d4, d5⟩ := hW; go_simp; exact hK
            refine anyS_quiet (a2 := ?ag_33) 33 rfl rfl rfl (by kernel_rfl) (by kernel_rfl) (by kernel_rfl) (by kernel_rfl) (by kernel_rfl) (by kernel_rfl) (fun _ _ _ _ h => h) HS.out ?hg_33 ?kg_33
            case hg_33 => intro W hW K hK; obtain ⟨d0, d1, d2, d3, d4, d5⟩ := hW; go_simp; exact hK
            refine anyS_quiet (a2 := ?ag_34) 34 rfl rfl rfl (by kernel_rfl) (by kernel_rfl) (by kernel_rfl) (by kernel_rfl) (by kernel_rfl) (by kernel_rfl) (fun _ _ _ _ h => h) HS.out ?hg_34 ?kg_34
            case hg_34 => intro W hW K hK; obtain ⟨d0, d1, d2, d3, d4, d5⟩ := hW; go_simp; exact hK
            refine anyS_only 35 rfl (by kernel_rfl) ?_
            gi_wp2_with fail
            refine (callsIn_WF (HSW.out _ (Ext.refl _))).mono ?_
            rintro e w10 ⟨rfl, hx10⟩
            have HX10 := Lib.hid (HX9.out.trans hx10)
            have HS : Hid (w10.cell? A = some (.int .i64 u.at_) ∧ w10.cell? { block := A.block, off := A.off + (0 + 1) } = some (.int .i64 u.kind) ∧ w10.cell? { block := A.block, off := A.off + (1 + 1) } = some su ∧ w10.cell? B = some (.int .i64 v.at_) ∧ w10.cell? { block := B.block, off := B.off + (0 + 1) } = some (.int .i64 v.kind) ∧ w10.cell? { block := B.block, off := B.off + (1 + 1) } = some sv) := Lib.hid (by
              obtain ⟨d0, d1, d2, d3, d4, d5⟩ := HS.out
              exact ⟨hx10.cell d0, hx10.cell d1, hx10.cell d2, hx10.cell d3, hx10.cell d4, hx10.cell d5⟩)
            clear hx10
            gi_wp2
            refine And.intro (.inr HS.out) ?_
            refine anyS_quiet (a2 := ?ah_36) 36 rfl rfl rfl (by kernel_rfl) (by kernel_rfl) (by kernel_rfl) (by kernel_rfl) (by kernel_rfl) (by kernel_rfl) (fun _ _ _ _ h => h) HS.out ?hh_36 ?kh_36
            case hh_36 => intro W hW K hK; obtain ⟨d0, d1, d2, d3, d4, d5⟩ := hW; go_simp; exact hK
            refine anyS_quiet (a2 := ?ah_37) 37 rfl rfl rfl (by kernel_rfl) (by kernel_rfl) (by kernel_rfl) (by kernel_rfl) (by kernel_rfl) (by kernel_rfl) (fun _ _ _ _ h => h) HS.out ?hh_37 ?kh_37
            case hh_37 => intro W hW K hK; obtain ⟨d0, d1, d2, d3, d4, d5⟩ := hW; go_simp; exact hK
            refine anyS_done (by kernel_rfl) ?_ _
            clear hA hB
            by_cases e : u.ws = v.ws
            · rw [decide_eq_true e]
              have E := Lib.hid e
              clear e
              go_wp2
              go_roundw
              case rel => exact ⟨k + 1, by omega, by go_num, HX10, Lib.hid (take_eq_step Hu.out Hv.out HT.out (by
                obtain ⟨_, _, _⟩ := u; obtain ⟨_, _, _⟩ := v
                have := H1.out; have := H2.out; have := E.out
                simp only at *; subst_vars; rfl))⟩
              case measure => simp [intOf]; omega
            · rw [decide_eq_false e]
              have E := Lib.hid e
              clear e
              go_wp2
              go_ret
              refine ⟨?_, HX10.out⟩
              rw [decide_eq_false]; rfl
              rintro rfl
              have := Hu.out; rw [Hv.out] at this; injection this with this; exact E.out (by rw [this])
      · have hkn : k = us.length := by omega
        subst hkn
        have hvl : vs.take us.length = vs := by rw [HL.out, List.take_length]
        have Huv : Hid (us = vs) := Lib.hid (by have := HT.out; rw [List.take_length, hvl] at this; exact this)
        clear hvl
        go_wp2
        go_ret
        exact ⟨by rw [decide_eq_true Huv.out]; rfl, HX.out⟩
  · have hne : us ≠ vs := fun e => hlen (by rw [e])
    have Hne := Lib.hid hne
    clear hne ha1 hb1
    go_enter Try.func15, Try.ntmps15
    go_wp2
    go_ret
    exact ⟨by rw [decide_eq_false Hne.out]; rfl, Ext.refl _⟩
end Go.Proofs.Ytikigppfnhilhaa
