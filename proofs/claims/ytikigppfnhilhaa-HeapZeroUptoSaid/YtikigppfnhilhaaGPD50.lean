/- alike: what is seen of both heaps. -/
import Derived.Test.YtikigppfnhilhaaGPD49
/- alike: what is seen of both heaps. -/
namespace Go.Proofs.Ytikigppfnhilhaa
open Go.RowKit Go.Instr
set_option linter.unusedVariables false
set_option linter.unusedSimpArgs false
attribute [local go_sem] Oper.semAt_some

set_option maxRecDepth 100000 in
set_option maxHeartbeats 8000000 in
theorem alike_any {base : Nat} {v : Value} {St : World → LH → (Nat → Prop) → Prop} (O : Ops base v St) {w : World} {h : LH} {P : Nat → Prop} {r : RH} (j : Joint base St r.rp w h P r) :
    Calls Try.prog 33 #[v, .pointer (some ⟨r.rp, 0, none⟩)] w (BoolR true w) := by
  have J := Lib.hid j
  generalize hM : BoolR true w = M
  have HM := Lib.hid hM
  have HF := Lib.hid (O.free j.st)
  have HFr : Hid (∀ V, Joint base St r.rp V h P r → Calls Try.prog 58 #[.pointer (some ⟨r.rp, 0, none⟩)] V fun e w' => e = .returned (.tuple #[.int .i64 (h.Y - bused h.yb), .int .i64 (h.O - bused h.ob)]) ∧ Ext V w') := Lib.hid fun V hV => by
    rw [hV.cpl.Y, hV.cpl.O, hV.cpl.yb, hV.cpl.ob]; exact RFree_any hV.ref
  generalize h.Y - bused h.yb = A1 at HF HFr
  generalize h.O - bused h.ob = A2 at HF HFr
  clear hM j
  go_enter Try.func33, Try.ntmps33
  go_wp2_with fail
  refine HF.out.mono ?_
  rintro e w2 ⟨rfl, hx2⟩
  have HX2 := Lib.hid hx2
  have HJ2 := Lib.hid (J.out.ext O hx2)
  have HC2 := Lib.hid (HFr.out _ HJ2.out)
  clear hx2 HF HFr
  go_wp2_with fail
  refine HC2.out.mono ?_
  rintro e w3 ⟨rfl, hx3⟩
  have HX3 := Lib.hid (HX2.out.trans hx3)
  have HJ3 := Lib.hid (HJ2.out.ext O hx3)
  clear hx3 HC2 HJ2 HX2
  go_upto_region 3 with fail
  have HX4 : Hid (Ext w w3.drew) := Lib.hid HX3.out.drew
  have HJ4 := Lib.hid (HJ3.out.ext O (Ext.refl w3).drew)
  have HS : Hid (w3.drew.cell? ⟨r.rp, 4, none⟩ = some r.ma) := Lib.hid HJ4.out.ref.c4
  refine region_S_plain (n := 3) (fun V => V.cell? ⟨r.rp, 4, none⟩ = some r.ma) 100 (by kernel_rfl) ?_
  clear HX3 HJ3
  generalize w3.drew = W4 at HX4 HJ4 HS ⊢
  refine anyS_quiet (a2 := ?a0) 0 rfl rfl rfl (by kernel_rfl) (by kernel_rfl) (by kernel_rfl) (by kernel_rfl) (by kernel_rfl) (by kernel_rfl) (fun _ _ _ _ h => h) HS.out ?h0 ?k0
  case h0 => intro W hW K hK; obtain d4 := hW; go_simp; exact hK
  refine anyS_quiet (a2 := ?a1) 1 rfl rfl rfl (by kernel_rfl) (by kernel_rfl) (by kernel_rfl) (by kernel_rfl) (by kernel_rfl) (by kernel_rfl) (fun _ _ _ _ h => h) HS.out ?h1 ?k1
  case h1 => intro W hW K hK; obtain d4 := hW; go_simp; exact hK
  refine anyS_quiet (a2 := ?a2) 2 rfl rfl rfl (by kernel_rfl) (by kernel_rfl) (by kernel_rfl) (by kernel_rfl) (by kernel_rfl) (by kernel_rfl) (fun _ _ _ _ h => h) HS.out ?h2 ?k2
  case h2 => intro W hW K hK; obtain d4 := hW; go_simp; exact hK
  refine anyS_quiet (a2 := ?a3) 3 rfl rfl rfl (by kernel_rfl) (by kernel_rfl) (by kernel_rfl) (by kernel_rfl) (by kernel_rfl) (by kernel_rfl) (fun _ _ _ _ h => h) HS.out ?h3 ?k3
  case h3 => intro W hW K hK; obtain d4 := hW; go_simp; exact hK
  refine anyS_quiet (a2 := ?a4) 4 rfl rfl rfl (by kernel_rfl) (by kernel_rfl) (by kernel_rfl) (by kernel_rfl) (by kernel_rfl) (by kernel_rfl) (fun _ _ _ _ h => h) HS.out ?h4 ?k4
  case h4 => intro W hW K hK; obtain d4 := hW; go_simp; exact hK
  refine anyS_quiet (a2 := ?a5) 5 rfl rfl rfl (by kernel_rfl) (by kernel_rfl) (by kernel_rfl) (by kernel_rfl) (by kernel_rfl) (by kernel_rfl) (fun _ _ _ _ h => h) HS.out ?h5 ?k5
  case h5 => intro W hW K hK; obtain d4 := hW; go_simp; exact hK
  refine anyS_quiet (a2 := ?a6) 6 rfl rfl rfl (by kernel_rfl) (by kernel_rfl) (by kernel_rfl) (by kernel_rfl) (by kernel_rfl) (by kernel_rfl) (fun _ _ _ _ h => h) HS.out ?h6 ?k6
  case h6 => intro W hW K hK; obtain d4 := hW; go_simp; exact hK
  refine anyS_quiet (a2 := ?a7) 7 rfl rfl rfl (by kernel_rfl) (by kernel_rfl) (by kernel_rfl) (by kernel_rfl) (by kernel_rfl) (by kernel_rfl) (fun _ _ _ _ h => h) HS.out ?h7 ?k7
  case h7 => intro W hW K hK; obtain d4 := hW; go_simp; exact hK
  refine anyS_quiet (a2 := ?a8) 8 rfl rfl rfl (by kernel_rfl) (by kernel_rfl) (by kernel_rfl) (by kernel_rfl) (by kernel_rfl) (by kernel_rfl) (fun _ _ _ _ h => h) HS.out ?h8 ?k8
  case h8 => intro W hW K hK; obtain d4 := hW; go_simp; exact hK
  refine anyS_quiet (a2 := ?a9) 9 rfl rfl rfl (by kernel_rfl) (by kernel_rfl) (by kernel_rfl) (by kernel_rfl) (by kernel_rfl) (by kernel_rfl) (fun _ _ _ _ h => h) HS.out ?h9 ?k9
  case h9 => intro W hW K hK; obtain d4 := hW; go_simp; exact hK
  refine anyS_quiet (a2 := ?ab_11) 11 rfl rfl rfl (by kernel_rfl) (by kernel_rfl) (by kernel_rfl) (by kernel_rfl) (by kernel_rfl) (by kernel_rfl) (fun _ _ _ _ h => h) HS.out ?hb_11 ?kb_11
  case hb_11 => intro W hW K hK; obtain d4 := hW; go_simp; exact hK
  refine anyS_quiet (a2 := ?ab_12) 12 rfl rfl rfl (by kernel_rfl) (by kernel_rfl) (by kernel_rfl) (by kernel_rfl) (by kernel_rfl) (by kernel_rfl) (fun _ _ _ _ h => h) HS.out ?hb_12 ?kb_12
  case hb_12 => intro W hW K hK; obtain d4 := hW; go_simp; exact hK
  refine anyS_quiet (a2 := ?ab_13) 13 rfl rfl rfl (by kernel_rfl) (by kernel_rfl) (by kernel_rfl) (by kernel_rfl) (by kernel_rfl) (by kernel_rfl) (fun _ _ _ _ h => h) HS.out ?hb_13 ?kb_13
  case hb_13 => intro W hW K hK; obtain d4 := hW; go_simp; exact hK
  refine anyS_quiet (a2 := ?ab_14) 14 rfl rfl rfl (by kernel_rfl) (by kernel_rfl) (by kernel_rfl) (by kernel_rfl) (by kernel_rfl) (by kernel_rfl) (fun _ _ _ _ h => h) HS.out ?hb_14 ?kb_14
  case hb_14 => intro W hW K hK; obtain d4 := hW; go_simp; exact hK
  refine anyS_only 10 rfl (by kernel_rfl) ?_
  have HCm := Lib.hid (O.rem HJ4.out.st)
  gi_wp2_with fail
  refine (callsIn_WF HCm.out).mono ?_
  rintro e w5 ⟨v', rs, rfl, hrow, hso, hmem, hlen, hx5⟩
  have HJ5 := Lib.hid (HJ4.out.ext O hx5)
  have HX5 := Lib.hid (HX4.out.trans hx5)
  have hrs : rs = r.M := sorted_ext hso HJ5.out.ref.sorted fun k => (hmem k).trans (HJ5.out.cpl.R k)
  have HS5 : Hid (w5.cell? ⟨r.rp, 4, none⟩ = some r.ma) := Lib.hid HJ5.out.ref.c4
  subst hrs
  have HCi := Lib.hid (ints_any hrow HJ5.out.ref.mrow hlen hlen)
  rw [decide_eq_true rfl] at HCi
  clear hrow hso hmem hlen hx5 HCm HX4 HJ4 HS
  gi_wp2
  refine And.intro (by first | exact .inr HS5.out | exact HS5.out) ?_
  refine anyS_only 15 rfl (by kernel_rfl) ?_
  gi_wp2_with fail
  refine (callsIn_WF HCi.out).mono ?_
  rintro e w6 ⟨rfl, hx6⟩
  have HJ6 := Lib.hid (HJ5.out.ext O hx6)
  have HX6 := Lib.hid (HX5.out.trans hx6)
  have HS6 : Hid (w6.cell? ⟨r.rp, 4, none⟩ = some r.ma) := Lib.hid HJ6.out.ref.c4
  clear hx6 HCi HX5 HJ5 HS5
  gi_wp2
  refine And.intro (by first | exact .inr HS6.out | exact HS6.out) ?_
  refine anyS_quiet (a2 := ?ac_16) 16 rfl rfl rfl (by kernel_rfl) (by kernel_rfl) (by kernel_rfl) (by kernel_rfl) (by kernel_rfl) (by kernel_rfl) (fun _ _ _ _ h => h) HS6.out ?hc_16 ?kc_16
  case hc_16 => intro W hW K hK; obtain d4 := hW; go_simp; exact hK
  refine anyS_quiet (a2 := ?ac_17) 17 rfl rfl rfl (by kernel_rfl) (by kernel_rfl) (by kernel_rfl) (by kernel_rfl) (by kernel_rfl) (by kernel_rfl) (fun _ _ _ _ h => h) HS6.out ?hc_17 ?kc_17
  case hc_17 => intro W hW K hK; obtain d4 := hW; go_simp; exact hK
  refine anyS_quiet (a2 := ?ac_18) 18 rfl rfl rfl (by kernel_rfl) (by kernel_rfl) (by kernel_rfl) (by kernel_rfl) (by kernel_rfl) (by kernel_rfl) (fun _ _ _ _ h => h) HS6.out ?hc_18 ?kc_18
  case hc_18 => intro W hW K hK; obtain d4 := hW; go_simp; exact hK
  refine anyS_quiet (a2 := ?ad_20) 20 rfl rfl rfl (by kernel_rfl) (by kernel_rfl) (by kernel_rfl) (by kernel_rfl) (by kernel_rfl) (by kernel_rfl) (fun _ _ _ _ h => h) HS6.out ?hd_20 ?kd_20
  case hd_20 => intro W hW K hK; obtain d4 := hW; go_simp; exact hK
  refine anyS_only 19 rfl (by kernel_rfl) ?_
  have HCb := Lib.hid (O.blocks HJ6.out.st)
  gi_wp2_with fail
  refine (callsIn_WF HCb.out).mono ?_
  rintro e w7 ⟨ba, bc, vs, rfl, hob, hx7⟩
  have HO7 := Lib.hid (rdB_of_own hob)
  have HJ7 := Lib.hid (HJ6.out.ext O hx7)
  have HX7 := Lib.hid (HX6.out.trans hx7)
  have HS7 : Hid (w7.cell? ⟨r.rp, 4, none⟩ = some r.ma) := Lib.hid HJ7.out.ref.c4
  have Hal : Hid (h.all.length ≤ 2000) := Lib.hid (by rw [HJ7.out.cpl.all]; exact HJ7.out.ref.alllen)
  clear hob hx7 HCb HX6 HJ6 HS6
  gi_wp2
  refine And.intro (by first | exact .inr HS7.out | exact HS7.out) ?_
  refine anyS_only 21 rfl (by kernel_rfl) ?_
  have HCr := Lib.hid (RBlocks_any HJ7.out.ref)
  gi_wp2_with fail
  refine (callsIn_WF HCr.out).mono ?_
  rintro e w8 ⟨rv, rfl, hrow, hx8⟩
  have HJ8 := Lib.hid (HJ7.out.ext O hx8)
  have HX8 := Lib.hid (HX7.out.trans hx8)
  have HS8 : Hid (w8.cell? ⟨r.rp, 4, none⟩ = some r.ma) := Lib.hid HJ8.out.ref.c4
  have hrb := rdB_of_rowR hrow HJ8.out.ref.wo
  rw [← RH.log_all, ← HJ8.out.cpl.all] at hrb
  have hwl : ∀ b ∈ h.all, b.ws.length ≤ 2000000 := fun b hb => by
    have := HJ8.out.ref.len (b := b) (by rw [← HJ8.out.cpl.all]; exact hb); omega
  have HCs := Lib.hid (sameBlocks_any (HO7.out.ext hx8) hrb (by have := Hal.out; omega) (by have := Hal.out; omega) hwl hwl)
  rw [decide_eq_true rfl] at HCs
  clear hrow hx8 HCr HX7 HJ7 HS7 hrb hwl
  gi_wp2
  refine And.intro (by first | exact .inr HS8.out | exact HS8.out) ?_
  refine anyS_only 22 rfl (by kernel_rfl) ?_
  gi_wp2_with fail
  refine (callsIn_WF HCs.out).mono ?_
  rintro e w9 ⟨rfl, hx9⟩
  have HX9 := Lib.hid (HX8.out.trans hx9)
  have HS9 : Hid (w9.cell? ⟨r.rp, 4, none⟩ = some r.ma) := Lib.hid (HJ8.out.ext O hx9).ref.c4
  clear hx9 HCs HX8 HJ8 HS8
  gi_wp2
  refine And.intro (by first | exact .inr HS9.out | exact HS9.out) ?_
  refine anyS_quiet (a2 := ?ae_23) 23 rfl rfl rfl (by kernel_rfl) (by kernel_rfl) (by kernel_rfl) (by kernel_rfl) (by kernel_rfl) (by kernel_rfl) (fun _ _ _ _ h => h) HS9.out ?he_23 ?ke_23
  case he_23 => intro W hW K hK; obtain d4 := hW; go_simp; exact hK
  refine anyS_quiet (a2 := ?ae_24) 24 rfl rfl rfl (by kernel_rfl) (by kernel_rfl) (by kernel_rfl) (by kernel_rfl) (by kernel_rfl) (by kernel_rfl) (fun _ _ _ _ h => h) HS9.out ?he_24 ?ke_24
  case he_24 => intro W hW K hK; obtain d4 := hW; go_simp; exact hK
  refine anyS_done (by kernel_rfl) ?_ _
  go_wp2_with fail
  rw [← HM.out]
  exact ⟨rfl, HX9.out⟩
end Go.Proofs.Ytikigppfnhilhaa
