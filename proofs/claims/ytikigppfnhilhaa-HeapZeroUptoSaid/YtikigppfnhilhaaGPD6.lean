/- slices.ContainsFunc over words, by the contract of the function given. -/
import Derived.Test.YtikigppfnhilhaaGPD3
import Derived.Test.YtikigppfnhilhaaGPD5
import Derived.DataElems
/- slices.ContainsFunc over words, by the contract of the function given. -/
namespace Go.Proofs.Ytikigppfnhilhaa
open Go.RowKit Go.Instr
set_option linter.unusedVariables false
set_option linter.unusedSimpArgs false

/-- The cells of one word of a list that is read. -/
theorem RdW.word {w : World} {ad : Addr} {n c : Nat} {ws : List Wd} (h : RdW w (.slice (some ad) n c) ws) {k : Nat} {u : Wd} (hu : ws[k]? = some u) (j : Nat) (hj : j < 6) : w.cell? ((ad.add (k * 6)).add j) = u.cells[j]? := by
  obtain ⟨a, c', e, h1, h2⟩ := h
  injection e with e _ _
  have := flatL_get ws k u hu j hj
  cases hc : u.cells[j]? with
  | none => rw [hc] at this; simp [Wd.cells] at hc; omega
  | some v => rw [Addr.add_add]; rw [hc] at this; exact h2 ad e.symm _ _ this

set_option maxRecDepth 100000 in
set_option maxHeartbeats 1000000 in
theorem IndexW_any {f : Nat} {lb : Array Value} (eg : ∀ args w, (callFunc f args).run Try.prog w = .ok (.enter f args) w) {w : World} {v : Value} {ws : List Wd} (h : RdW w v ws) (hl : ws.length ≤ 2000000) (p : Wd → Bool)
    (hf : ∀ u ∈ ws, ∀ W, Ext w W → Calls Try.prog f (#[u.val] ++ lb) W fun e W' => e = .returned (.bool (p u)) ∧ Ext W W') :
    Calls Try.prog 82 #[v, .func (.func f) #[] lb] w fun e w' => ∃ i : Int, e = .returned (.int .i64 i) ∧ (0 ≤ i ↔ ws.any p = true) ∧ Ext w w' := by
  obtain ⟨a, c, rfl, h1, h2⟩ := id h
  cases a with
  | none =>
    have h1 := h1 rfl
    subst h1
    clear h2
    go_enter Try.func82, Try.ntmps82
    go_wp2
    go_loop [8] (fun i => i = .int .i64 0) (fun _ => 0)
    case atStart => rfl
    case round =>
      subst hrel
      go_wp2
      go_ret
      exact ⟨_, rfl, by simp, Ext.refl w⟩
  | some ad =>
    have H := Lib.hid h
    clear h1 h2 h
    go_enter Try.func82, Try.ntmps82
    go_wp2
    go_loopw [8] (fun i wr => ∃ k : Nat, k ≤ ws.length ∧ i = .int .i64 k ∧ Hid (Ext w wr) ∧ Hid ((ws.take k).any p = false)) (fun i wr => ws.length - (intOf i).toNat)
    case atStart => exact ⟨0, Nat.zero_le _, rfl, Ext.refl _, by simp [Hid]⟩
    case round =>
      obtain ⟨k, hk, rfl, HX, HP⟩ := hrel
      by_cases hlt : k < ws.length
      · have hu : ws[k]? = some ws[k] := List.getElem?_eq_getElem hlt
        have hR := H.out.ext HX.out
        obtain ⟨A, hA⟩ : ∃ A, ad.add (k * 6) = A := ⟨_, rfl⟩
        have c0 : wr.cell? (A.add 0) = some (.int .i64 ws[k].tag) := by rw [← hA]; exact (hR.word hu 0 (by omega)).trans rfl
        have c1 : wr.cell? (A.add (0 + 1)) = some (.int .i64 ws[k].a) := by rw [← hA]; exact (hR.word hu 1 (by omega)).trans rfl
        have c2 : wr.cell? (A.add (1 + 1)) = some (.int .i64 ws[k].b) := by rw [← hA]; exact (hR.word hu 2 (by omega)).trans rfl
        have c3 : wr.cell? (A.add (2 + 1)) = some (.string ws[k].text) := by rw [← hA]; exact (hR.word hu 3 (by omega)).trans rfl
        have c4 : wr.cell? (A.add (3 + 1)) = some (.int .i64 ws[k].man) := by rw [← hA]; exact (hR.word hu 4 (by omega)).trans rfl
        have c5 : wr.cell? (A.add (4 + 1)) = some (.int .i64 ws[k].exp) := by rw [← hA]; exact (hR.word hu 5 (by omega)).trans rfl
        rw [Addr.add_zero'] at c0
        rw [Addr.add_succ'] at c1 c2 c3 c4 c5
        have hcl := hf ws[k] (List.getElem_mem hlt) wr HX.out
        have Hcl := Lib.hid hcl; have Hu := Lib.hid hu; have Hf := Lib.hid hf
        clear hcl hu hf hR
        unfold Wd.val Wd.cells at Hcl
        go_wp2_with fail
        refine (Hcl.out).mono ?_
        rintro e w2 ⟨rfl, hx⟩
        have htk : (ws.take (k + 1)).any p = ((ws.take k).any p || p ws[k]) := by
          rw [List.take_add_one, Hu.out, List.any_append]; simp [Option.toList]
        rw [HP.out] at htk
        have HX2 := Lib.hid (HX.out.trans hx)
        clear hx HX
        cases hp : p ws[k] with
        | true =>
          go_wp2
          go_ret
          refine ⟨_, rfl, ?_, HX2.out⟩
          have : ws.any p = true := List.any_eq_true.2 ⟨ws[k], List.getElem_mem hlt, hp⟩
          simp [this]
        | false =>
          rw [hp] at htk
          go_wp2
          go_roundw
          case rel => exact ⟨k + 1, by omega, by go_num, HX2, htk⟩
          case measure => simp [intOf]; omega
      · have : k = ws.length := by omega
        subst this
        go_wp2
        go_ret
        exact ⟨_, rfl, by have := HP.out; rw [List.take_length] at this; simp [this], HX.out⟩

theorem ContainsW_any {f : Nat} {lb : Array Value} (eg : ∀ args w, (callFunc f args).run Try.prog w = .ok (.enter f args) w) {w : World} {v : Value} {ws : List Wd} (h : RdW w v ws) (hl : ws.length ≤ 2000000) (p : Wd → Bool)
    (hf : ∀ u ∈ ws, ∀ W, Ext w W → Calls Try.prog f (#[u.val] ++ lb) W fun e W' => e = .returned (.bool (p u)) ∧ Ext W W') :
    Calls Try.prog 64 #[v, .func (.func f) #[] lb] w fun e w' => e = .returned (.bool (ws.any p)) ∧ Ext w w' := by
  go_enter Try.func64, Try.ntmps64
  go_wp2_with (go_at_call 82; refine (IndexW_any eg h hl p hf).mono ?_; rintro e w2 ⟨i, rfl, hi, hx⟩; have Hi := Lib.hid hi; clear hi)
  go_ret
  have hi := Hi.out
  refine ⟨?_, hx⟩
  have hq : ws.any p = decide (0 ≤ i) := by
    by_cases h0 : 0 ≤ i
    · rw [hi.1 h0]; simp [h0]
    · cases hq : ws.any p
      · simp [h0]
      · exact (h0 (hi.2 hq)).elim
  rw [hq]; rfl

/-- Refers to no block. -/
def badF (F : Int → Option PB) (u : Wd) : Bool := refW u != 0 && (F (refW u)).isNone
def PH.bad (x : PH) (u : Wd) : Bool := badF x.find u

set_option maxRecDepth 100000 in
set_option maxHeartbeats 1000000 in
theorem validF_gen {w : World} {ho : Option Addr} {F : Int → Option PB} (h : ∀ V, Ext w V → ∀ q, Calls Try.prog 42 #[.pointer ho, .int .i64 q] V fun e w' => e = .returned (ptrO (F q)) ∧ w' = V) {bh : Nat} (hb : Blk w bh #[.pointer ho] 25) (u : Wd) :
    Calls Try.prog 68 #[u.val, .pointer (some ⟨bh, 0, none⟩)] w fun e w' => e = .returned (.bool (badF F u)) ∧ Ext w w' := by
  obtain ⟨w1, hw1⟩ : ∃ w1, w1 = (w.alloc (.cells u.cells.toArray 33)).drew := ⟨_, rfl⟩
  have hx1 : Ext w w1 := by rw [hw1]; exact ((Ext.refl w).alloc _).drew
  have hbx : Blk w1 w.heap.size u.cells.toArray 33 := by rw [hw1]; exact (Blk.new w _ _).drew
  have HS0 : ∀ V, Ext w1 V → Hid (Ext w V ∧ V.cell? ⟨bh, 0, none⟩ = some (.pointer ho) ∧ V.cell? ⟨w.heap.size, 0, none⟩ = some (.int .i64 u.tag) ∧ V.cell? ⟨w.heap.size, 1, none⟩ = some (.int .i64 u.a) ∧ V.cell? ⟨w.heap.size, 2, none⟩ = some (.int .i64 u.b) ∧
      V.cell? ⟨w.heap.size, 3, none⟩ = some (.string u.text) ∧ V.cell? ⟨w.heap.size, 4, none⟩ = some (.int .i64 u.man) ∧ V.cell? ⟨w.heap.size, 5, none⟩ = some (.int .i64 u.exp)) := fun V hV =>
    have hbV := hV.blk hbx id
    ⟨hx1.trans hV, ((hV.blk (hx1.blk hb id) id).cell 0).trans rfl, (hbV.cell 0).trans rfl, (hbV.cell 1).trans rfl, (hbV.cell 2).trans rfl, (hbV.cell 3).trans rfl, (hbV.cell 4).trans rfl, (hbV.cell 5).trans rfl⟩
  go_enter Try.func68, Try.ntmps68
  unfold Wd.val
  go_wp2
  refine region_S_plain (n := 3) (fun V => Ext w V ∧ V.cell? ⟨bh, 0, none⟩ = some (.pointer ho) ∧ V.cell? ⟨w.heap.size, 0, none⟩ = some (.int .i64 u.tag) ∧ V.cell? ⟨w.heap.size, 1, none⟩ = some (.int .i64 u.a) ∧ V.cell? ⟨w.heap.size, 2, none⟩ = some (.int .i64 u.b) ∧
      V.cell? ⟨w.heap.size, 3, none⟩ = some (.string u.text) ∧ V.cell? ⟨w.heap.size, 4, none⟩ = some (.int .i64 u.man) ∧ V.cell? ⟨w.heap.size, 5, none⟩ = some (.int .i64 u.exp)) 10 (by kernel_rfl) ?_
  have HS := HS0 w1 (Ext.refl w1)
  have HX := Lib.hid hx1
  rw [← hw1]
  have hrf : ∀ W, Gives 41 #[u.val] W (.int .i64 (refW u)) := fun W => refers_any _ W
  have Hrf := Lib.hid hrf
  unfold Wd.val Wd.cells at Hrf
  have Hblk := Lib.hid h
  clear hrf hbx hx1 hb h hw1
  refine anyS_quiet (a2 := ?a0) 0 rfl rfl rfl (by kernel_rfl) (by kernel_rfl) (by kernel_rfl) (by kernel_rfl) (by kernel_rfl) (by kernel_rfl) (fun _ _ _ _ h => h) HS.out ?h0 ?k0
  case h0 => intro W hW K hK; obtain ⟨d0, d1, d2, d3, d4, d5, d6, d7⟩ := hW; go_simp; exact hK
  refine anyS_only 1 rfl (by kernel_rfl) ?_
  gi_wp2_with fail
  refine (callsIn_WF (Hrf.out _)).mono ?_
  rintro e w2 ⟨rfl, hx⟩
  have HS := HS0 w2 hx
  have HX2 := Lib.hid (HX.out.trans hx)
  have HXX := Lib.hid hx
  clear hx HX
  gi_wp2
  refine And.intro (.inr HS.out) ?_
  refine anyS_quiet (a2 := ?ab_2) 2 rfl rfl rfl (by kernel_rfl) (by kernel_rfl) (by kernel_rfl) (by kernel_rfl) (by kernel_rfl) (by kernel_rfl) (fun _ _ _ _ h => h) HS.out ?hb_2 ?kb_2
  case hb_2 => intro W hW K hK; obtain ⟨d0, d1, d2, d3, d4, d5, d6, d7⟩ := hW; go_simp; exact hK
  refine anyS_quiet (a2 := ?ac_3) 3 rfl rfl rfl (by kernel_rfl) (by kernel_rfl) (by kernel_rfl) (by kernel_rfl) (by kernel_rfl) (by kernel_rfl) (fun _ _ _ _ h => h) HS.out ?hc_3 ?kc_3
  case hc_3 => intro W hW K hK; obtain ⟨d0, d1, d2, d3, d4, d5, d6, d7⟩ := hW; go_simp; exact hK
  by_cases hz : refW u = 0
  · have hbad : badF F u = false := by simp [badF, hz]
    rw [hz]
    refine anyS_quiet (a2 := ?ad_4) 4 rfl rfl rfl (by kernel_rfl) (by kernel_rfl) (by kernel_rfl) (by kernel_rfl) (by kernel_rfl) (by kernel_rfl) (fun _ _ _ _ h => h) HS.out ?hd_4 ?kd_4
    case hd_4 => intro W hW K hK; obtain ⟨d0, d1, d2, d3, d4, d5, d6, d7⟩ := hW; go_simp; exact hK
    refine anyS_quiet (a2 := ?ad_5) 5 rfl rfl rfl (by kernel_rfl) (by kernel_rfl) (by kernel_rfl) (by kernel_rfl) (by kernel_rfl) (by kernel_rfl) (fun _ _ _ _ h => h) HS.out ?hd_5 ?kd_5
    case hd_5 => intro W hW K hK; obtain ⟨d0, d1, d2, d3, d4, d5, d6, d7⟩ := hW; go_simp; exact hK
    refine anyS_only 6 rfl (by kernel_rfl) ?_
    gi_wp2
    refine And.intro (.inr HS.out) ?_
    refine anyS_only 7 rfl (by kernel_rfl) ?_
    gi_wp2
    refine And.intro (.inr HS.out) ?_
    refine anyS_quiet (a2 := ?ae_8) 8 rfl rfl rfl (by kernel_rfl) (by kernel_rfl) (by kernel_rfl) (by kernel_rfl) (by kernel_rfl) (by kernel_rfl) (fun _ _ _ _ h => h) HS.out ?he_8 ?ke_8
    case he_8 => intro W hW K hK; obtain ⟨d0, d1, d2, d3, d4, d5, d6, d7⟩ := hW; go_simp; exact hK
    refine anyS_quiet (a2 := ?ae_9) 9 rfl rfl rfl (by kernel_rfl) (by kernel_rfl) (by kernel_rfl) (by kernel_rfl) (by kernel_rfl) (by kernel_rfl) (fun _ _ _ _ h => h) HS.out ?he_9 ?ke_9
    case he_9 => intro W hW K hK; obtain ⟨d0, d1, d2, d3, d4, d5, d6, d7⟩ := hW; go_simp; exact hK
    refine anyS_only 10 rfl (by kernel_rfl) ?_
    gi_wp2
    refine And.intro (by kernel_rfl) ?_
    go_wp2
    go_ret
    exact ⟨by rw [hbad]; rfl, HX2.out⟩
  · have hbad : badF F u = (F (refW u)).isNone := by simp [badF, hz]
    have Hbad := Lib.hid hbad; clear hbad
    generalize hq : refW u = q at Hrf hz Hbad ⊢
    clear hq
    refine anyS_quiet (a2 := ?af_4) 4 rfl rfl rfl (by kernel_rfl) (by kernel_rfl) (by kernel_rfl) (by kernel_rfl) (by kernel_rfl) (by kernel_rfl) (fun _ _ _ _ h => h) HS.out ?hf_4 ?kf_4
    case hf_4 => intro W hW K hK; obtain ⟨d0, d1, d2, d3, d4, d5, d6, d7⟩ := hW; go_simp; exact hK
    refine anyS_quiet (a2 := ?af_5) 5 rfl rfl rfl (by kernel_rfl) (by kernel_rfl) (by kernel_rfl) (by kernel_rfl) (by kernel_rfl) (by kernel_rfl) (fun _ _ _ _ h => h) HS.out ?hf_5 ?kf_5
    case hf_5 => intro W hW K hK; obtain ⟨d0, d1, d2, d3, d4, d5, d6, d7⟩ := hW; go_simp; exact hK
    refine anyS_only 6 rfl (by kernel_rfl) ?_
    gi_wp2_with fail
    refine (callsIn_WF (Hrf.out _)).mono ?_
    rintro e w3 ⟨rfl, hx⟩
    have HS := HS0 w3 (HXX.out.trans hx)
    have HX3 := Lib.hid (HX2.out.trans hx)
    clear hx HX2
    gi_wp2
    refine And.intro (.inr HS.out) ?_
    refine anyS_only 7 rfl (by kernel_rfl) ?_
    gi_wp2_with fail
    refine (callsIn_WF (Hblk.out _ HS.out.1 q)).mono ?_
    rintro e w4 ⟨rfl, rfl⟩
    gi_wp2
    refine And.intro (.inr HS.out) ?_
    cases hf : F q with
    | none =>
      rw [hf] at Hbad
      unfold ptrO
      refine anyS_quiet (a2 := ?ag_8) 8 rfl rfl rfl (by kernel_rfl) (by kernel_rfl) (by kernel_rfl) (by kernel_rfl) (by kernel_rfl) (by kernel_rfl) (fun _ _ _ _ h => h) HS.out ?hg_8 ?kg_8
      case hg_8 => intro W hW K hK; obtain ⟨d0, d1, d2, d3, d4, d5, d6, d7⟩ := hW; go_simp; exact hK
      refine anyS_quiet (a2 := ?ag_9) 9 rfl rfl rfl (by kernel_rfl) (by kernel_rfl) (by kernel_rfl) (by kernel_rfl) (by kernel_rfl) (by kernel_rfl) (fun _ _ _ _ h => h) HS.out ?hg_9 ?kg_9
      case hg_9 => intro W hW K hK; obtain ⟨d0, d1, d2, d3, d4, d5, d6, d7⟩ := hW; go_simp; exact hK
      refine anyS_only 10 rfl (by kernel_rfl) ?_
      gi_wp2
      refine And.intro (by kernel_rfl) ?_
      go_wp2
      go_ret
      exact ⟨by rw [Hbad.out, show (q != 0) = true from by simpa using hz]; rfl, HX3.out⟩
    | some y =>
      rw [hf] at Hbad
      simp only [ptrO, PB.ptr]
      refine anyS_quiet (a2 := ?ah_8) 8 rfl rfl rfl (by kernel_rfl) (by kernel_rfl) (by kernel_rfl) (by kernel_rfl) (by kernel_rfl) (by kernel_rfl) (fun _ _ _ _ h => h) HS.out ?hh_8 ?kh_8
      case hh_8 => intro W hW K hK; obtain ⟨d0, d1, d2, d3, d4, d5, d6, d7⟩ := hW; go_simp; exact hK
      refine anyS_quiet (a2 := ?ah_9) 9 rfl rfl rfl (by kernel_rfl) (by kernel_rfl) (by kernel_rfl) (by kernel_rfl) (by kernel_rfl) (by kernel_rfl) (fun _ _ _ _ h => h) HS.out ?hh_9 ?kh_9
      case hh_9 => intro W hW K hK; obtain ⟨d0, d1, d2, d3, d4, d5, d6, d7⟩ := hW; go_simp; exact hK
      refine anyS_only 10 rfl (by kernel_rfl) ?_
      gi_wp2
      refine And.intro (by kernel_rfl) ?_
      go_wp2
      go_ret
      exact ⟨by rw [Hbad.out]; rfl, HX3.out⟩

theorem validF_any {w : World} {base : Nat} {x : PH} (h : HRep w base x) {bh : Nat} (hb : Blk w bh #[.pointer (some ⟨x.hp, 0, none⟩)] 25) (u : Wd) :
    Calls Try.prog 68 #[u.val, .pointer (some ⟨bh, 0, none⟩)] w fun e w' => e = .returned (.bool (x.bad u)) ∧ Ext w w' :=
  validF_gen (fun V hV q => block_any (h.kept hV fun _ _ => id) q) hb u
theorem validF_nil {w : World} {bh : Nat} (hb : Blk w bh #[.pointer none] 25) (u : Wd) :
    Calls Try.prog 68 #[u.val, .pointer (some ⟨bh, 0, none⟩)] w fun e w' => e = .returned (.bool (badF (fun _ => none) u)) ∧ Ext w w' :=
  validF_gen (F := fun _ => none) (fun V hV q => block_nil q V) hb u
theorem enters_validF (args : Array Value) (w : World) : (callFunc 68 args).run Try.prog w = .ok (.enter 68 args) w := enters_of Try.func68 (by kernel_rfl) rfl args w
theorem valid_any {w : World} {base : Nat} {x : PH} (h : HRep w base x) {v : Value} {roots : List Wd} (hr : RdW w v roots) (hl : roots.length ≤ 2000000) :
    Calls Try.prog 44 #[.pointer (some ⟨x.hp, 0, none⟩), v] w fun e w' => e = .returned (.bool (!roots.any x.bad)) ∧ Ext w w' := by
  have hx1 : Ext w (w.alloc (.cells #[.pointer (some ⟨x.hp, 0, none⟩)] 25)) := (Ext.refl w).alloc _
  have hc := ContainsW_any enters_validF (hr.ext hx1) hl x.bad (lb := #[.pointer (some ⟨w.heap.size, 0, none⟩)]) (fun u _ W hW => validF_any ((h.kept hx1 fun _ _ => id).kept hW fun _ _ => id) (hW.blk (Blk.new w _ _) id) u)
  have Hc := Lib.hid hc
  clear hc
  go_enter Try.func44, Try.ntmps44
  go_wp2_with (go_at_call 64; refine (Hc.out).mono ?_; rintro e w2 ⟨rfl, hx⟩)
  go_ret
  exact ⟨rfl, hx1.trans hx⟩
theorem valid_nil {w : World} {v : Value} {roots : List Wd} (hr : RdW w v roots) (hl : roots.length ≤ 2000000) :
    Calls Try.prog 44 #[.pointer none, v] w fun e w' => e = .returned (.bool (!roots.any (badF fun _ => none))) ∧ Ext w w' := by
  have hx1 : Ext w (w.alloc (.cells #[.pointer none] 25)) := (Ext.refl w).alloc _
  have hc := ContainsW_any enters_validF (hr.ext hx1) hl (badF fun _ => none) (lb := #[.pointer (some ⟨w.heap.size, 0, none⟩)]) (fun u _ W hW => validF_nil (hW.blk (Blk.new w _ _) id) u)
  have Hc := Lib.hid hc
  clear hc
  go_enter Try.func44, Try.ntmps44
  go_wp2_with (go_at_call 64; refine (Hc.out).mono ?_; rintro e w2 ⟨rfl, hx⟩)
  go_ret
  exact ⟨rfl, hx1.trans hx⟩
end Go.Proofs.Ytikigppfnhilhaa
