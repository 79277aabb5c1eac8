/- collect; HeapKeeps: the walk. -/
import Derived.Test.YtikigppfnhilhaaKE
namespace Go.Proofs.Ytikigppfnhilhaa
open Go.RowKit Go.Instr
set_option linter.unusedVariables false
set_option linter.unusedSimpArgs false
attribute [local go_sem] Oper.semAt_some

def CollR (W0 w : World) (hp : Nat) (y o : Int) (x : PH) (major : Bool) (roots : List Wd) (e : Ending) (w' : World) : Prop :=
  ∃ v', e = .returned (.tuple #[v', .int .i64 (x.log.coll major roots).2.2]) ∧ w'.ownsRow w.heap.size 33 6 v' (x.log.coll major roots).2.1.length (flatL (x.log.coll major roots).2.1) ∧ (∃ x', Heap W0 w' hp y o x' ∧ x'.log = (x.log.coll major roots).1) ∧ Keeps x.fp w w'
theorem collect_any {W0 w : World} {hp : Nat} {y o : Int} {x : PH} (h : Heap W0 w hp y o x) {v : Value} {roots : List Wd} (hr : RdW w v roots) (hd : roots ≠ [] → ∀ k, v.ownBlock = some k → ¬ x.fp k) (hl : roots.length ≤ 1048576) (major : Bool) :
    Calls Try.prog 14 #[.pointer (some ⟨hp, 0, none⟩), .bool major, v] w (CollR W0 w hp y o x major roots) := by
  have H1 := Lib.hid (h.minor hr hd hl); have H2 := Lib.hid (h.major hr hd hl)
  cases major with
  | true =>
    generalize hM : CollR W0 w hp y o x true roots = M
    have HM := Lib.hid hM
    clear h hr hd hl hM
    go_enter Try.func14, Try.ntmps14
    go_wp2_with fail
    refine H2.out.mono ?_
    rintro e w2 ⟨v', rfl, h1, h2, h3⟩
    have HH := Lib.hid h1; have HH2 := Lib.hid h2; have HH3 := Lib.hid h3
    clear h1 h2 h3
    go_wp2
    rw [← HM.out]
    exact ⟨v', rfl, HH.out, HH2.out, HH3.out⟩
  | false =>
    generalize hM : CollR W0 w hp y o x false roots = M
    have HM := Lib.hid hM
    clear h hr hd hl hM
    go_enter Try.func14, Try.ntmps14
    go_wp2_with fail
    refine H1.out.mono ?_
    rintro e w2 ⟨v', rfl, h1, h2, h3⟩
    have HH := Lib.hid h1; have HH2 := Lib.hid h2; have HH3 := Lib.hid h3
    clear h1 h2 h3
    go_wp2
    rw [← HM.out]
    exact ⟨v', rfl, HH.out, HH2.out, HH3.out⟩

/-- An act that stands for its roots. -/
def Ac.ofRoots (roots : List Wd) : Ac := ⟨3, 0, 0, ⟨0, 0, 0, ⟨#[]⟩, 0, 0⟩, roots, true⟩
def fixR (bs : List Bk) (roots : List Wd) : List Wd := roots.map fun u => wordB bs u true
theorem fixedA_ofRoots (bs : List Bk) (roots : List Wd) : (fixedA bs (Ac.ofRoots roots)).roots = fixR bs roots := rfl

def TrueR (w : World) (e : Ending) (w' : World) : Prop := e = .returned (.bool true) ∧ Ext w w'
set_option maxRecDepth 100000 in
set_option maxHeartbeats 8000000 in
theorem HeapKeeps_any (young old : Int) {lv rv : Value} {l : List Ac} {roots : List Wd} (major : Bool) {w : World} (hl : RdA w lv l) (hn : l.length ≤ 1048576) (hroots : ∀ x ∈ l, x.roots.length ≤ 1048576)
    (hrr : RdW w rv roots) (hrn : roots.length ≤ 1048576) :
    Calls Try.prog 3 #[.int .i64 young, .int .i64 old, lv, rv, .bool major] w (TrueR w) := by
  have HL := Lib.hid hl; have Hroots := Lib.hid hroots; have HRR := Lib.hid hrr
  obtain ⟨ra, rc, rfl, -, -⟩ := hrr
  generalize hM : TrueR w = M
  have HM := Lib.hid hM
  clear hl hroots hM
  go_enter Try.func3, Try.ntmps3
  go_wp2_with fail
  refine (awake_any _).mono ?_
  rintro e w2 ⟨rfl, hx2⟩
  have HX2 := Lib.hid hx2
  clear hx2
  have HP := Lib.hid (play_any young old (HL.out.ext HX2.out) hn Hroots.out)
  go_wp2_with fail
  refine HP.out.mono ?_
  rintro e w3 (⟨rfl, hx3⟩ | ⟨hp, x, rfl, h3, hy0, hy3, ho0, ho3⟩)
  · go_wp2
    rw [← HM.out]
    exact ⟨rfl, HX2.out.trans hx3⟩
  · have H3 := Lib.hid (h3.rebase HX2.out)
    clear h3 HP
    have HCb := Lib.hid H3.out.blocks
    go_wp2_with fail
    refine HCb.out.mono ?_
    rintro e w4 ⟨ba, bc, vs, rfl, hob, hx4⟩
    have H4 := Lib.hid (H3.out.later hx4)
    have HO4 := Lib.hid hob
    have Hs3 : Hid (∀ k, w3.heap.size ≤ k → ¬ x.fp k) := Lib.hid fun k hk => fun hf => by have := H3.out.rep.fp_lt k hf; omega
    have Hall := Lib.hid H3.out.all_len
    have Hz4 := Lib.hid hx4.size
    clear hx4 hob HCb
    have HFX := Lib.hid (fixed_near (rdB_of_own HO4.out) Hall.out (Ac.ofRoots roots) ra roots.length rc (HRR.out.ext H4.out.ext) (Nat.le_trans hrn (by omega)) rfl)
    go_wp2_with fail
    refine HFX.out.mono ?_
    rintro e w5 ⟨rv', rfl, hro, hx5⟩
    rw [fixedA_ofRoots] at hro
    obtain ⟨fa, fc, rfl⟩ := own_slice hro
    have HRo := Lib.hid hro
    have H5 := Lib.hid (H4.out.later hx5)
    have HO5 := Lib.hid (HO4.out.keeps hx5 fun _ _ h => h)
    have Hz5 := Lib.hid hx5.size
    clear hro hx5 HFX H4 HO4
    generalize fixedA x.log.all (Ac.ofRoots roots) = Y
    unfold Ac.cells
    go_wp2_with fail
    obtain ⟨s5, hs5⟩ : ∃ s5, w5.heap.size = s5 := ⟨_, rfl⟩
    obtain ⟨w6, hw6⟩ : ∃ w6, w5.alloc (.cells #[.int .i64 Y.kind, .int .i64 Y.a, .int .i64 Y.b, .int .i64 Y.w.tag, .int .i64 Y.w.a, .int .i64 Y.w.b, .string Y.w.text, .int .i64 Y.w.man, .int .i64 Y.w.exp, .slice fa (fixR x.log.all roots).length fc, .bool Y.near] 35) = w6 := ⟨_, rfl⟩
    have hx6 : Ext w5 w6 := by rw [← hw6]; exact (Ext.refl _).alloc _
    have HB6 : Hid (Blk w6 s5 #[.int .i64 Y.kind, .int .i64 Y.a, .int .i64 Y.b, .int .i64 Y.w.tag, .int .i64 Y.w.a, .int .i64 Y.w.b, .string Y.w.text, .int .i64 Y.w.man, .int .i64 Y.w.exp, .slice fa (fixR x.log.all roots).length fc, .bool Y.near] 35) := Lib.hid (by rw [← hw6, ← hs5]; exact Blk.new _ _ _)
    have Hs5 := Lib.hid hs5
    have H6 := Lib.hid (H5.out.later hx6)
    have HO6 := Lib.hid (HO5.out.keeps hx6 fun _ _ h => h)
    have HRo6 := Lib.hid (own_ext HRo.out hx6)
    have Hnf : Hid (¬ x.fp s5) := Lib.hid (Hs3.out s5 (by have := Hz4.out; have := Hz5.out; omega))
    rw [hw6]
    try rw [hs5]
    clear hw6 hx6 hs5 H5 HO5 HRo
    obtain ⟨F, hF⟩ : ∃ F, fixR x.log.all roots = F := ⟨_, rfl⟩
    have hFl : F.length ≤ 1048576 := by rw [← hF]; unfold fixR; rw [List.length_map]; exact hrn
    rw [hF] at HB6 HRo6 ⊢
    clear hF
    have HC := Lib.hid (collect_any H6.out (rdW_of_own HRo6.out) (fun _ k hk => Hs3.out k (by have := (HRo6.out.lt k hk).1; have := Hz4.out; omega)) (Nat.le_trans hFl (by omega)) major)
    refine HC.out.mono ?_
    rintro e w7 ⟨v', rfl, hn7, ⟨x', h7, l7⟩, hk7⟩
    have H7 := Lib.hid h7
    have HO7 := Lib.hid (HO6.out.keeps hk7 fun k hk => Hs3.out k hk)
    have HRo7 : Hid (w7.ownsRow w4.heap.size 33 6 (.slice fa F.length fc) F.length (flatL F)) := Lib.hid (ownsRow_keeps HRo6.out fun k hk => hk7.block k (HRo6.out.lt k hk).2 (Hs3.out k (by have := (HRo6.out.lt k hk).1; have := Hz4.out; omega)))
    have HB7 := Lib.hid (hk7.blk HB6.out Hnf.out)
    have HN7 := Lib.hid hn7
    have L7 := Lib.hid l7
    have Hok := Lib.hid H6.out.rep.ok.lok
    have Hinv := Lib.hid H6.out.inv
    have Hal : Hid (x.log.all.length ≤ 200000) := Lib.hid (by have := H6.out.rep.ok.all_len; rw [log_all, List.length_map]; exact this)
    have Hwl : Hid (∀ b ∈ x.log.all, b.ws.length ≤ 1000000) := Lib.hid fun b hb => by
      rw [log_all] at hb
      obtain ⟨z, hz, rfl⟩ := List.mem_map.1 hb
      have := H6.out.rep.ok.len hz; omega
    have Hok' : Hid (LOk (x.log.coll major F).1) := Lib.hid (by rw [← L7.out]; exact H7.out.rep.ok.lok)
    have Hal' : Hid (x'.log.all.length ≤ 200000) := Lib.hid (by have := H7.out.rep.ok.all_len; rw [log_all, List.length_map]; exact this)
    have Hwl' : Hid (∀ b ∈ x'.log.all, b.ws.length ≤ 1000000) := Lib.hid fun b hb => by
      rw [log_all] at hb
      obtain ⟨z, hz, rfl⟩ := List.mem_map.1 hb
      have := H7.out.rep.ok.len hz; omega
    obtain ⟨na, nc, rfl⟩ := own_slice hn7
    clear h7 l7 hk7 hn7 HC H6 HO6 HRo6 HB6 Hs3 Hnf
    by_cases hE : (x.log.coll major F).2.2 = 0
    · have HE := Lib.hid hE
      obtain ⟨K, M', hm⟩ := coll_mvd Hok.out Hinv.out Hok'.out hE
      rw [← L7.out] at hm
      have HMv := Lib.hid hm
      rw [hE]
      obtain ⟨now, hnow⟩ : ∃ now, (x.log.coll major F).2.1 = now := ⟨_, rfl⟩
      rw [hnow] at HN7 HMv ⊢
      have hnl : now.length ≤ 1048576 := by rw [HMv.out.now, List.length_map]; exact hFl
      have HOK' : Hid (LOk x'.log) := Lib.hid H7.out.rep.ok.lok
      clear hE hm hnow L7 Hok' HE
      have d9 : w7.cell? ⟨s5, 9, none⟩ = some (.slice fa F.length fc) := (HB7.out.cell 9).trans rfl
      go_wp2_with fail
      have HS : Hid (w7.drew.cell? ⟨s5, 9, none⟩ = some (.slice fa F.length fc)) := Lib.hid d9
      have H8 := Lib.hid (H7.out.later (Ext.refl _).drew)
      have HO8 := Lib.hid (HO7.out.keeps (Ext.refl _).drew fun _ _ h => h)
      have HRo8 := Lib.hid (own_ext HRo7.out (Ext.refl _).drew)
      have HN8 := Lib.hid (own_ext HN7.out (Ext.refl _).drew)
      clear d9 H7 HO7 HRo7 HN7 HB7
      refine region_S_plain (n := 3) (fun V => V.cell? ⟨s5, 9, none⟩ = some (.slice fa F.length fc)) 19 (by kernel_rfl) ?_
      generalize w7.drew = w8 at HS H8 HO8 HRo8 HN8 ⊢
      refine anyS_quiet (a2 := ?a0) 0 rfl rfl rfl (by kernel_rfl) (by kernel_rfl) (by kernel_rfl) (by kernel_rfl) (by kernel_rfl) (by kernel_rfl) (fun _ _ _ _ h => h) HS.out ?h0 ?k0
      case h0 => intro W hW K hK; obtain d9 := hW; go_simp; exact hK
      refine anyS_quiet (a2 := ?a1) 1 rfl rfl rfl (by kernel_rfl) (by kernel_rfl) (by kernel_rfl) (by kernel_rfl) (by kernel_rfl) (by kernel_rfl) (fun _ _ _ _ h => h) HS.out ?h1 ?k1
      case h1 => intro W hW K hK; obtain d9 := hW; go_simp; exact hK
      refine anyS_quiet (a2 := ?a2) 2 rfl rfl rfl (by kernel_rfl) (by kernel_rfl) (by kernel_rfl) (by kernel_rfl) (by kernel_rfl) (by kernel_rfl) (fun _ _ _ _ h => h) HS.out ?h2 ?k2
      case h2 => intro W hW K hK; obtain d9 := hW; go_simp; exact hK
      refine anyS_quiet (a2 := ?a3) 3 rfl rfl rfl (by kernel_rfl) (by kernel_rfl) (by kernel_rfl) (by kernel_rfl) (by kernel_rfl) (by kernel_rfl) (fun _ _ _ _ h => h) HS.out ?h3 ?k3
      case h3 => intro W hW K hK; obtain d9 := hW; go_simp; exact hK
      refine anyS_quiet (a2 := ?a4) 4 rfl rfl rfl (by kernel_rfl) (by kernel_rfl) (by kernel_rfl) (by kernel_rfl) (by kernel_rfl) (by kernel_rfl) (fun _ _ _ _ h => h) HS.out ?h4 ?k4
      case h4 => intro W hW K hK; obtain d9 := hW; go_simp; exact hK
      refine anyS_quiet (a2 := ?a5) 5 rfl rfl rfl (by kernel_rfl) (by kernel_rfl) (by kernel_rfl) (by kernel_rfl) (by kernel_rfl) (by kernel_rfl) (fun _ _ _ _ h => h) HS.out ?h5 ?k5
      case h5 => intro W hW K hK; obtain d9 := hW; go_simp; exact hK
      refine anyS_quiet (a2 := ?ab_7) 7 rfl rfl rfl (by kernel_rfl) (by kernel_rfl) (by kernel_rfl) (by kernel_rfl) (by kernel_rfl) (by kernel_rfl) (fun _ _ _ _ h => h) HS.out ?hb_7 ?kb_7
      case hb_7 => intro W hW K hK; obtain d9 := hW; go_simp; exact hK
      refine anyS_only 6 rfl (by kernel_rfl) ?_
      gi_wp2_with fail
      refine (callsIn_WF H8.out.blocks).mono ?_
      rintro e w9 ⟨ca, cc, vs', rfl, hob, hx9⟩
      have H9 := Lib.hid (H8.out.later hx9)
      have HO9 := Lib.hid (HO8.out.keeps hx9 fun _ _ h => h)
      have HRo9 := Lib.hid (own_ext HRo8.out hx9)
      have HN9 := Lib.hid (own_ext HN8.out hx9)
      have HP9 := Lib.hid hob
      have HS9 : Hid (w9.cell? ⟨s5, 9, none⟩ = some (.slice fa F.length fc)) := Lib.hid (Ext.cell hx9 HS.out)
      clear HS H8 HO8 HRo8 HN8 hob hx9
      gi_wp2
      refine And.intro (.inr HS9.out) ?_
      refine anyS_only 8 rfl (by kernel_rfl) ?_
      gi_wp2_with fail
      have HWs : Hid (WsR (MvdR K M') F now) := Lib.hid (by have := HMv.out.wsr HOK'.out HMv.out.clr; rw [← HMv.out.now] at this; exact this)
      have HBs : Hid (BsR (MvdR K M') x.log.all x'.log.all) := Lib.hid (HMv.out.bsr Hok.out HOK'.out)
      have HR1 := Lib.hid (HMv.out.rel (Nat.le_trans Hal.out (by omega)))
      have HR2 := Lib.hid (HMv.out.rel' (Nat.le_trans Hal'.out (by omega)))
      have HK1 := Lib.hid HMv.out.lenK
      have HK2 := Lib.hid HMv.out.lenM
      refine (callsIn_WF (isomorphic_any HR1.out (rdB_of_own HO9.out) (rdB_of_own HP9.out) (rdW_of_own HRo9.out) (rdW_of_own HN9.out) HWs.out HBs.out (Nat.le_trans Hal.out (by omega)) (Nat.le_trans Hal'.out (by omega)) HK1.out (Nat.le_trans hFl (by omega)) (fun z hz => Nat.le_trans (Hwl.out z hz) (by omega)))).mono ?_
      rintro e w10 ⟨rfl, hx10⟩
      have H10 := Lib.hid (H9.out.later hx10)
      have HO10 := Lib.hid (HO9.out.keeps hx10 fun _ _ h => h)
      have HRo10 := Lib.hid (own_ext HRo9.out hx10)
      have HN10 := Lib.hid (own_ext HN9.out hx10)
      have HS10 : Hid (w10.cell? ⟨s5, 9, none⟩ = some (.slice fa F.length fc)) := Lib.hid (Ext.cell hx10 HS9.out)
      clear HS9 H9 HO9 HRo9 HN9 HP9 hx10
      gi_wp2
      refine And.intro (.inr HS10.out) ?_
      refine anyS_quiet (a2 := ?ac_9) 9 rfl rfl rfl (by kernel_rfl) (by kernel_rfl) (by kernel_rfl) (by kernel_rfl) (by kernel_rfl) (by kernel_rfl) (fun _ _ _ _ h => h) HS10.out ?hc_9 ?kc_9
      case hc_9 => intro W hW K hK; obtain d9 := hW; go_simp; exact hK
      refine anyS_quiet (a2 := ?ac_10) 10 rfl rfl rfl (by kernel_rfl) (by kernel_rfl) (by kernel_rfl) (by kernel_rfl) (by kernel_rfl) (by kernel_rfl) (fun _ _ _ _ h => h) HS10.out ?hc_10 ?kc_10
      case hc_10 => intro W hW K hK; obtain d9 := hW; go_simp; exact hK
      refine anyS_quiet (a2 := ?ac_11) 11 rfl rfl rfl (by kernel_rfl) (by kernel_rfl) (by kernel_rfl) (by kernel_rfl) (by kernel_rfl) (by kernel_rfl) (fun _ _ _ _ h => h) HS10.out ?hc_11 ?kc_11
      case hc_11 => intro W hW K hK; obtain d9 := hW; go_simp; exact hK
      refine anyS_quiet (a2 := ?ad_13) 13 rfl rfl rfl (by kernel_rfl) (by kernel_rfl) (by kernel_rfl) (by kernel_rfl) (by kernel_rfl) (by kernel_rfl) (fun _ _ _ _ h => h) HS10.out ?hd_13 ?kd_13
      case hd_13 => intro W hW K hK; obtain d9 := hW; go_simp; exact hK
      refine anyS_quiet (a2 := ?ad_14) 14 rfl rfl rfl (by kernel_rfl) (by kernel_rfl) (by kernel_rfl) (by kernel_rfl) (by kernel_rfl) (by kernel_rfl) (fun _ _ _ _ h => h) HS10.out ?hd_14 ?kd_14
      case hd_14 => intro W hW K hK; obtain d9 := hW; go_simp; exact hK
      refine anyS_quiet (a2 := ?ad_15) 15 rfl rfl rfl (by kernel_rfl) (by kernel_rfl) (by kernel_rfl) (by kernel_rfl) (by kernel_rfl) (by kernel_rfl) (fun _ _ _ _ h => h) HS10.out ?hd_15 ?kd_15
      case hd_15 => intro W hW K hK; obtain d9 := hW; go_simp; exact hK
      refine anyS_quiet (a2 := ?ad_16) 16 rfl rfl rfl (by kernel_rfl) (by kernel_rfl) (by kernel_rfl) (by kernel_rfl) (by kernel_rfl) (by kernel_rfl) (fun _ _ _ _ h => h) HS10.out ?hd_16 ?kd_16
      case hd_16 => intro W hW K hK; obtain d9 := hW; go_simp; exact hK
      refine anyS_only 12 rfl (by kernel_rfl) ?_
      gi_wp2_with fail
      refine (callsIn_WF H10.out.blocks).mono ?_
      rintro e w11 ⟨cb, cd, vs2, rfl, hob, hx11⟩
      have H11 := Lib.hid (H10.out.later hx11)
      have HO11 := Lib.hid (HO10.out.keeps hx11 fun _ _ h => h)
      have HRo11 := Lib.hid (own_ext HRo10.out hx11)
      have HN11 := Lib.hid (own_ext HN10.out hx11)
      have HP11 := Lib.hid hob
      have HS11 : Hid (w11.cell? ⟨s5, 9, none⟩ = some (.slice fa F.length fc)) := Lib.hid (Ext.cell hx11 HS10.out)
      clear HS10 H10 HO10 HRo10 HN10 hob hx11
      gi_wp2
      refine And.intro (.inr HS11.out) ?_
      refine anyS_only 17 rfl (by kernel_rfl) ?_
      gi_wp2_with fail
      refine (callsIn_WF (isomorphic_any HR2.out (rdB_of_own HP11.out) (rdB_of_own HO11.out) (rdW_of_own HN11.out) (rdW_of_own HRo11.out) HWs.out.symm HBs.out.symm (Nat.le_trans Hal'.out (by omega)) (Nat.le_trans Hal.out (by omega)) HK2.out (Nat.le_trans hnl (by omega)) (fun z hz => Nat.le_trans (Hwl'.out z hz) (by omega)))).mono ?_
      rintro e w12 ⟨rfl, hx12⟩
      have HX12 := Lib.hid (H11.out.ext.trans hx12)
      have HS12 : Hid (w12.cell? ⟨s5, 9, none⟩ = some (.slice fa F.length fc)) := Lib.hid (Ext.cell hx12 HS11.out)
      clear HS11 H11 HO11 HRo11 HN11 HP11 hx12
      gi_wp2
      refine And.intro (.inr HS12.out) ?_
      refine anyS_quiet (a2 := ?ae_18) 18 rfl rfl rfl (by kernel_rfl) (by kernel_rfl) (by kernel_rfl) (by kernel_rfl) (by kernel_rfl) (by kernel_rfl) (fun _ _ _ _ h => h) HS12.out ?he_18 ?ke_18
      case he_18 => intro W hW K hK; obtain d9 := hW; go_simp; exact hK
      refine anyS_only 19 rfl (by kernel_rfl) ?_
      gi_wp2
      refine anyS_done (by kernel_rfl) ?_ _
      go_wp2
      rw [← HM.out]
      exact ⟨rfl, HX12.out⟩
    · have hE' : ((x.log.coll major F).2.2 != 0) = true := by simpa using hE
      have hnow := (coll_bad hE).2
      have hlog := (coll_bad hE).1
      rw [← L7.out] at hlog
      have Hsame : Hid (x.log.all = x'.log.all) := Lib.hid (by rw [hlog])
      rw [hnow] at HN7 ⊢
      generalize (x.log.coll major F).2.2 = E at hE' ⊢
      clear hE hnow hlog L7
      have HCb := Lib.hid H7.out.blocks
      go_wp2_with fail
      refine HCb.out.mono ?_
      rintro e w8 ⟨ca, cc, vs', rfl, hob, hx8⟩
      have HO8 := Lib.hid (HO7.out.keeps hx8 fun _ _ h => h)
      have HP8 := Lib.hid hob
      have HX8 := Lib.hid (H7.out.ext.trans hx8)
      clear hob hx8 HCb
      go_wp2_with fail
      refine (sameBlocks_any (rdB_of_own HO8.out) (rdB_of_own HP8.out) Hall.out (Nat.le_trans Hal'.out (by omega)) (fun b hb => Nat.le_trans (Hwl.out b hb) (by omega)) (fun b hb => Nat.le_trans (Hwl'.out b hb) (by omega))).mono ?_
      rintro e w9 ⟨rfl, hx9⟩
      rw [decide_eq_true Hsame.out]
      go_wp2
      rw [← HM.out]
      exact ⟨rfl, HX8.out.trans hx9⟩
end Go.Proofs.Ytikigppfnhilhaa
