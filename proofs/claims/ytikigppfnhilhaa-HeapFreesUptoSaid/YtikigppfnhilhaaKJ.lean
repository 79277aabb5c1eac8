/- HeapFrees: the walk. -/
import Derived.Test.YtikigppfnhilhaaKF
import Derived.Test.YtikigppfnhilhaaKI
namespace Go.Proofs.Ytikigppfnhilhaa
open Go.RowKit Go.Instr
set_option linter.unusedVariables false
set_option linter.unusedSimpArgs false
attribute [local go_sem] Oper.semAt_some

theorem Heap.reach {W0 w : World} {hp : Nat} {y o : Int} {x : PH} (h : Heap W0 w hp y o x) {v : Value} {roots : List Wd} (hr : RdW w v roots) (hl : roots.length ≤ 1048576) :
    Calls Try.prog 22 #[.pointer (some ⟨hp, 0, none⟩), v] w (ReachR w x roots) := by
  rw [← h.hp_]; exact Reach_any h.rep hr hl
/-- An own row of ints, read. -/
theorem ownI_get {w : World} {base : Nat} {v : Value} {zs : List Int} (h : w.ownsRow base 3 1 v zs.length (zs.map (Value.int .i64))) {i : Nat} {a : Int} (ha : zs[i]? = some a) : ∃ g c, v = .slice (some ⟨g, 0, none⟩) zs.length c ∧ w.cell? ⟨g, i, none⟩ = some (.int .i64 a) := by
  rcases h.2 with ⟨hv, hl⟩ | ⟨g, c, cur, hv, _⟩
  · rw [List.length_eq_zero_iff.1 hl] at ha; simp at ha
  · refine ⟨g, c, hv, ?_⟩
    have := h.cells (g := g) (by rw [hv]; rfl) i (.int .i64 a) (by rw [List.getElem?_map, ha]; rfl)
    rw [show (⟨g, 0, none⟩ : Addr).add i = ⟨g, i, none⟩ from by unfold Addr.add; split <;> simp_all] at this
    exact this

set_option maxRecDepth 100000 in
set_option maxHeartbeats 8000000 in
theorem HeapFrees_any (young old : Int) {lv rv : Value} {l : List Ac} {roots : List Wd} (major : Bool) {w : World} (hl : RdA w lv l) (hn : l.length ≤ 1048576) (hroots : ∀ x ∈ l, x.roots.length ≤ 1048576)
    (hrr : RdW w rv roots) (hrn : roots.length ≤ 1048576) :
    Calls Try.prog 5 #[.int .i64 young, .int .i64 old, lv, rv, .bool major] w (TrueR w) := by
  have HL := Lib.hid hl; have Hroots := Lib.hid hroots; have HRR := Lib.hid hrr
  obtain ⟨ra, rc, rfl, -, -⟩ := hrr
  generalize hM : TrueR w = M
  have HM := Lib.hid hM
  clear hl hroots hM
  go_enter Try.func5, Try.ntmps5
  go_wp2_with fail
  refine (awake_any _).mono ?_
  rintro e w2 ⟨rfl, hx2⟩
  have HX2 := Lib.hid hx2
  clear hx2
  have HP := Lib.hid (play_any young old (HL.out.ext HX2.out) hn Hroots.out)
  go_wp2_with fail
  refine HP.out.mono ?_
  rintro e w3 (⟨rfl, hx3⟩ | ⟨hp, x, rfl, h3, hy0, hy3, ho0, ho3⟩)
  · go_wp2
    rw [← HM.out]
    exact ⟨rfl, HX2.out.trans hx3⟩
  · have H3 := Lib.hid (h3.rebase HX2.out)
    clear h3 HP
    have HCb := Lib.hid H3.out.blocks
    go_wp2_with fail
    refine HCb.out.mono ?_
    rintro e w4 ⟨ba, bc, vs, rfl, hob, hx4⟩
    have H4 := Lib.hid (H3.out.later hx4)
    have HO4 := Lib.hid hob
    have Hs3 : Hid (∀ k, w3.heap.size ≤ k → ¬ x.fp k) := Lib.hid fun k hk => fun hf => by have := H3.out.rep.fp_lt k hf; omega
    have Hall := Lib.hid H3.out.all_len
    have Hz4 := Lib.hid hx4.size
    clear hx4 hob HCb
    have HFX := Lib.hid (fixed_near (rdB_of_own HO4.out) Hall.out (Ac.ofRoots roots) ra roots.length rc (HRR.out.ext H4.out.ext) (Nat.le_trans hrn (by omega)) rfl)
    go_wp2_with fail
    refine HFX.out.mono ?_
    rintro e w5 ⟨rv', rfl, hro, hx5⟩
    rw [fixedA_ofRoots] at hro
    obtain ⟨fa, fc, rfl⟩ := own_slice hro
    have HRo := Lib.hid hro
    have H5 := Lib.hid (H4.out.later hx5)
    have HO5 := Lib.hid (HO4.out.keeps hx5 fun _ _ h => h)
    have Hz5 := Lib.hid hx5.size
    clear hro hx5 HFX H4 HO4
    generalize fixedA x.log.all (Ac.ofRoots roots) = Y
    unfold Ac.cells
    go_wp2_with fail
    obtain ⟨s5, hs5⟩ : ∃ s5, w5.heap.size = s5 := ⟨_, rfl⟩
    obtain ⟨w6, hw6⟩ : ∃ w6, w5.alloc (.cells #[.int .i64 Y.kind, .int .i64 Y.a, .int .i64 Y.b, .int .i64 Y.w.tag, .int .i64 Y.w.a, .int .i64 Y.w.b, .string Y.w.text, .int .i64 Y.w.man, .int .i64 Y.w.exp, .slice fa (fixR x.log.all roots).length fc, .bool Y.near] 35) = w6 := ⟨_, rfl⟩
    have hx6 : Ext w5 w6 := by rw [← hw6]; exact (Ext.refl _).alloc _
    have HB6 : Hid (Blk w6 s5 #[.int .i64 Y.kind, .int .i64 Y.a, .int .i64 Y.b, .int .i64 Y.w.tag, .int .i64 Y.w.a, .int .i64 Y.w.b, .string Y.w.text, .int .i64 Y.w.man, .int .i64 Y.w.exp, .slice fa (fixR x.log.all roots).length fc, .bool Y.near] 35) := Lib.hid (by rw [← hw6, ← hs5]; exact Blk.new _ _ _)
    have Hs5 := Lib.hid hs5
    have H6 := Lib.hid (H5.out.later hx6)
    have HO6 := Lib.hid (HO5.out.keeps hx6 fun _ _ h => h)
    have HRo6 := Lib.hid (own_ext HRo.out hx6)
    have Hnf : Hid (¬ x.fp s5) := Lib.hid (Hs3.out s5 (by have := Hz4.out; have := Hz5.out; omega))
    rw [hw6]
    try rw [hs5]
    clear hw6 hx6 hs5 H5 HO5 HRo
    obtain ⟨F, hF⟩ : ∃ F, fixR x.log.all roots = F := ⟨_, rfl⟩
    have hFl : F.length ≤ 1048576 := by rw [← hF]; unfold fixR; rw [List.length_map]; exact hrn
    rw [hF] at HB6 HRo6 ⊢
    clear hF
    have HC := Lib.hid (collect_any H6.out (rdW_of_own HRo6.out) (fun _ k hk => Hs3.out k (by have := (HRo6.out.lt k hk).1; have := Hz4.out; omega)) (Nat.le_trans hFl (by omega)) major)
    refine HC.out.mono ?_
    rintro e w7 ⟨v', rfl, hn7, ⟨x', h7, l7⟩, hk7⟩
    have H7 := Lib.hid h7
    have HO7 := Lib.hid (HO6.out.keeps hk7 fun k hk => Hs3.out k hk)
    have HRo7 : Hid (w7.ownsRow w4.heap.size 33 6 (.slice fa F.length fc) F.length (flatL F)) := Lib.hid (ownsRow_keeps HRo6.out fun k hk => hk7.block k (HRo6.out.lt k hk).2 (Hs3.out k (by have := (HRo6.out.lt k hk).1; have := Hz4.out; omega)))
    have HB7 := Lib.hid (hk7.blk HB6.out Hnf.out)
    have HN7 := Lib.hid hn7
    have L7 := Lib.hid l7
    have Hok := Lib.hid H6.out.rep.ok.lok
    have Hinv := Lib.hid H6.out.inv
    have Hal : Hid (x.log.all.length ≤ 200000) := Lib.hid (by have := H6.out.rep.ok.all_len; rw [log_all, List.length_map]; exact this)
    have Hwl : Hid (∀ b ∈ x.log.all, b.ws.length ≤ 1000000) := Lib.hid fun b hb => by
      rw [log_all] at hb
      obtain ⟨z, hz, rfl⟩ := List.mem_map.1 hb
      have := H6.out.rep.ok.len hz; omega
    have Hok' : Hid (LOk (x.log.coll major F).1) := Lib.hid (by rw [← L7.out]; exact H7.out.rep.ok.lok)
    have Hal' : Hid (x'.log.all.length ≤ 200000) := Lib.hid (by have := H7.out.rep.ok.all_len; rw [log_all, List.length_map]; exact this)
    have Hwl' : Hid (∀ b ∈ x'.log.all, b.ws.length ≤ 1000000) := Lib.hid fun b hb => by
      rw [log_all] at hb
      obtain ⟨z, hz, rfl⟩ := List.mem_map.1 hb
      have := H7.out.rep.ok.len hz; omega
    obtain ⟨na, nc, rfl⟩ := own_slice hn7
    clear h7 l7 hk7 hn7 HC H6 HO6 HRo6 HB6 Hs3 Hnf
    have HD7 := Lib.hid (dense_any H7.out)
    go_wp2_with fail
    refine HD7.out.mono ?_
    rintro e w8 ⟨rfl, hx8⟩
    have H8 := Lib.hid (H7.out.later hx8)
    have HO8 := Lib.hid (HO7.out.keeps hx8 fun _ _ h => h)
    have HN8 := Lib.hid (own_ext HN7.out hx8)
    clear HD7 hx8 H7 HO7 HN7 HRo7 HB7
    by_cases hE : (x.log.coll major F).2.2 = 0
    · have HE := Lib.hid hE
      obtain ⟨K, M', hm⟩ := coll_mvd Hok.out Hinv.out Hok'.out hE
      rw [← L7.out] at hm
      have HMv := Lib.hid hm
      rw [hE]
      obtain ⟨now, hnow⟩ : ∃ now, (x.log.coll major F).2.1 = now := ⟨_, rfl⟩
      rw [hnow] at HN8 HMv ⊢
      have hnl : now.length ≤ 1048576 := by rw [HMv.out.now, List.length_map]; exact hFl
      have Hnow := Lib.hid hnow
      clear hE hm hnow
      have HRe := Lib.hid (H8.out.reach (rdW_of_own HN8.out) hnl)
      go_wp2_with fail
      refine HRe.out.mono ?_
      rintro e w9 ⟨rv9, rfl, hr9, hx9⟩
      rw [HMv.out.now_good, if_neg (by simp)]
      have HR9 := Lib.hid hr9
      have H9 := Lib.hid (H8.out.later hx9)
      have HO9 := Lib.hid (HO8.out.keeps hx9 fun _ _ h => h)
      have HCb := Lib.hid H9.out.blocks
      clear hr9 hx9 HRe H8 HO8 HN8
      go_wp2_with fail
      refine HCb.out.mono ?_
      rintro e w10 ⟨ca, cc, vs', rfl, hob, hx10⟩
      have H10 := Lib.hid (H9.out.later hx10)
      have HO10 := Lib.hid (HO9.out.keeps hx10 fun _ _ h => h)
      have HR10 := Lib.hid (own_ext HR9.out hx10)
      have HP10 := Lib.hid (rdB_of_own hob)
      clear hob hx10 HCb H9 HO9 HR9
      obtain ⟨qa, qc, rfl⟩ := own_slice HR10.out
      cases major with
      | true =>
        have hre : x'.log.reachB now = x'.log.all.map Bk.at_ := by
          have := major_reach Hok.out Hinv.out (roots := F) Hok'.out HE.out
          have e1 : x'.log = (x.log.major F).1 := L7.out
          have e2 : (x.log.major F).2.1 = now := Hnow.out
          rw [e1, ← e2]; exact this
        rw [hre, List.length_map] at HR10
        rw [hre, List.length_map]
        obtain ⟨AL, hAL⟩ : ∃ AL, x'.log.all = AL := ⟨_, rfl⟩
        have hall := Hal'.out
        rw [hAL] at HR10 HP10 hall ⊢
        have HR : Hid (w10.ownsRow w8.heap.size 3 1 (.slice qa AL.length qc) (AL.map Bk.at_).length ((AL.map Bk.at_).map (Value.int .i64))) := Lib.hid (by have := HR10.out; rwa [List.length_map])
        clear hre hAL HR10 HO10 L7 Hok' HE Hnow HMv Hal' Hwl' Hwl Hal Hall
        go_wp2_with fail
        go_loopw [21] (fun i wr => ∃ k : Nat, k ≤ AL.length ∧ i = .int .i64 k ∧ Hid (Ext w10 wr)) (fun i wr => AL.length - (intOf i).toNat)
        case atStart => exact ⟨0, Nat.zero_le _, rfl, Lib.hid (Ext.refl _)⟩
        case round =>
          obtain ⟨k, hk, rfl, HX⟩ := hrel
          by_cases hlt : k < AL.length
          · obtain ⟨b, hb⟩ : ∃ b, AL[k]? = some b := ⟨_, List.getElem?_eq_getElem hlt⟩
            obtain ⟨g, c, e, d0⟩ := ownI_get (own_ext HR.out HX.out) (i := k) (a := b.at_) (by rw [List.getElem?_map, hb]; rfl)
            injection e with e e2 e3; subst e; clear e2 e3
            obtain ⟨ad, rfl⟩ := HP10.out.some (by rintro e; rw [e] at hb; simp at hb)
            obtain ⟨A, hA⟩ : ∃ A, ad.add (k * 3) = A := ⟨_, rfl⟩
            obtain ⟨su, a0, a1, a2, hsu⟩ := (HP10.out.ext HX.out).at_ hb hA
            clear hb hsu a1 a2
            go_wp2_with fail
            go_region
            go_wp2_with fail
            exact ⟨⟨k + 1, by omega, by simp, Lib.hid HX.out.drew⟩, by simp only [intOf]; omega⟩
          · have hkn : k = AL.length := by omega
            subst hkn
            go_wp2
            rw [← HM.out]
            exact ⟨rfl, H10.out.ext.trans HX.out⟩
      | false =>
        have hmo := minor_old Hok.out (roots := F) Hok'.out HE.out
        have e1 : x'.log = (x.log.minor F).1 := L7.out
        rw [← e1] at hmo
        obtain ⟨hyb, hole, hold⟩ := hmo
        have HF := Lib.hid H10.out.free
        rw [hyb, show bused [] = 0 from rfl, Int.sub_zero] at HF
        obtain ⟨Yb, hYb⟩ : ∃ Yb, x.log.yb = Yb := ⟨_, rfl⟩
        obtain ⟨Ob, hOb⟩ : ∃ Ob, x.log.ob = Ob := ⟨_, rfl⟩
        have hL : x.log.all = Yb ++ Ob := by rw [← hYb, ← hOb]; rfl
        have hYY : x.log.Y = young := by have := H3.out.Y; exact this
        have hy : ∀ z ∈ Yb, z.at_ ≤ young := fun z hz => by
          rw [← hYb] at hz
          have := Hok.out.dy.mem hz; have := Hok.out.uy; omega
        have ho : ∀ z ∈ Ob, young < z.at_ := fun z hz => by
          rw [← hOb] at hz
          have := Hok.out.do_.mem hz; omega
        have hlen : x.log.all.length = Yb.length + Ob.length := by rw [hL, List.length_append]
        have hB := rdB_of_own HO10.out
        rw [hlen] at hB ⊢
        rw [hL] at hB
        have HB := Lib.hid hB; have Hy := Lib.hid hy; have Ho := Lib.hid ho
        obtain ⟨AL, hAL⟩ : ∃ AL, x'.log.all = AL := ⟨_, rfl⟩
        have hall := Hal'.out
        have hbl := Hal.out
        rw [hlen] at hbl
        have Hwl2 : Hid (∀ b ∈ Yb ++ Ob, b.ws.length ≤ 1000000) := Lib.hid (by rw [← hL]; exact Hwl.out)
        rw [hOb, hAL] at hole
        rw [hOb, hAL] at hold
        rw [hAL] at HP10 hall ⊢
        have Hold := Lib.hid hold
        have HX10 := Lib.hid H10.out.ext
        clear hy ho hB hold hlen hL hYY hOb hYb hAL hyb e1 HR10 HO10 L7 Hok' HE Hnow HMv Hal' Hwl' Hwl Hal Hall H10 Hok Hinv H3
        go_wp2_with fail
        refine HF.out.mono ?_
        rintro e w11 ⟨rfl, hx11⟩
        have HX11 := Lib.hid hx11
        clear hx11 HF
        go_wp2_with fail
        generalize (x'.log.reachB now).length = rn
        generalize old - bused x'.log.ob = fo
        go_loopw [24, 25] (fun m i wr => ∃ k : Nat, k ≤ Yb.length + Ob.length ∧ i = .int .i64 k ∧ m = .int .i64 ((k - Yb.length : Nat) : Int) ∧ Hid (Ext w11 wr)) (fun m i wr => Yb.length + Ob.length - (intOf i).toNat)
        case atStart => exact ⟨0, Nat.zero_le _, rfl, by simp, Lib.hid (Ext.refl _)⟩
        case round =>
          obtain ⟨k, hk, rfl, rfl, HX⟩ := hrel
          by_cases hlt : k < Yb.length + Ob.length
          · obtain ⟨b, hb⟩ : ∃ b, (Yb ++ Ob)[k]? = some b := ⟨_, List.getElem?_eq_getElem (by rw [List.length_append]; exact hlt)⟩
            obtain ⟨ad, rfl⟩ := HB.out.some (by rintro e; rw [e] at hb; simp at hb)
            obtain ⟨A, hA⟩ : ∃ A, ad.add (k * 3) = A := ⟨_, rfl⟩
            have hxx := HX11.out.trans HX.out
            obtain ⟨su, a0, a1, a2, hsu⟩ := (HB.out.ext hxx).at_ hb hA
            obtain ⟨sa, sc, rfl, -⟩ := hsu
            by_cases hy : k < Yb.length
            · have hle : b.at_ ≤ young := Hy.out b (by rw [List.getElem?_append_left hy] at hb; exact List.mem_of_getElem? hb)
              have hz : k - Yb.length = 0 := by omega
              have hz2 : k + 1 - Yb.length = 0 := by omega
              rw [hz]
              clear hb hxx
              go_wp2_with fail
              exact ⟨⟨k + 1, by omega, by simp, by rw [hz2], HX⟩, by simp only [intOf]; omega⟩
            · have hbO : b ∈ Ob := by rw [List.getElem?_append_right (by omega)] at hb; exact List.mem_of_getElem? hb
              have hgt : young < b.at_ := Ho.out b hbO
              obtain ⟨b', hf, hkd, hwl⟩ := Hold.out b hbO
              have hwb : b.ws.length ≤ 1000000 := Hwl2.out b (List.mem_of_getElem? hb)
              have Hf := Lib.hid hf
              have HA := Lib.hid hA
              have Hb := Lib.hid hb
              have hkd2 : (b'.kind != b.kind) = false := by rw [hkd]; simp
              obtain ⟨m, hm⟩ : ∃ m : Nat, k - Yb.length = m := ⟨_, rfl⟩
              have hm2 : k + 1 - Yb.length = m + 1 := by omega
              have hmb : m ≤ 200000 := by omega
              rw [hm]
              have HHx := Lib.hid hxx
              clear hb hxx hf hbO hm
              go_wp2_with fail
              refine (find_any HP10.out HHx.out (by omega) b.at_ Hf.out).mono ?_
              rintro e w13 ⟨s1, sc1, rfl, hr1, hx13⟩
              have HX13 := Lib.hid (HX.out.trans hx13)
              have b0 := Ext.cell hx13 a0
              have b1 := Ext.cell hx13 a1
              have b2 := Ext.cell hx13 a2
              clear hr1 hx13 a0 a1 a2
              go_wp2_with fail
              obtain ⟨s13, hs13⟩ : ∃ s13, w13.heap.size = s13 := ⟨_, rfl⟩
              obtain ⟨W, hW⟩ : ∃ W, w13.alloc (.cells #[.int .i64 b'.at_, .int .i64 b.kind, .slice s1 b.ws.length sc1] 49) = W := ⟨_, rfl⟩
              have hbk : Blk W s13 #[.int .i64 b'.at_, .int .i64 b.kind, .slice s1 b.ws.length sc1] 49 := by rw [← hW, ← hs13]; exact Blk.new w13 _ _
              have HXW : Hid (Ext w11 W) := Lib.hid (by rw [← hW]; exact HX13.out.alloc _)
              have q0 : W.cell? A = some (.int .i64 b.at_) := by rw [← hW]; exact cell_allocO b0 _
              have q1 : W.cell? { block := A.block, off := A.off + (0 + 1) } = some (.int .i64 b.kind) := by rw [← hW]; exact cell_allocO b1 _
              have q2 : W.cell? { block := A.block, off := A.off + (1 + 1) } = some (.slice sa b.ws.length sc) := by rw [← hW]; exact cell_allocO b2 _
              have p1 : W.cell? ⟨s13, 1, none⟩ = some (.int .i64 b.kind) := (hbk.cell 1).trans rfl
              have p2 : W.cell? ⟨s13, 2, none⟩ = some (.slice s1 b.ws.length sc1) := (hbk.cell 2).trans rfl
              rw [hW, hs13]
              clear hW hs13 hbk b0 b1 b2
              go_region
              go_wp2_with fail
              exact ⟨⟨k + 1, by omega, by simp, by rw [hm2]; simp, Lib.hid HXW.out.drew⟩, by simp only [intOf]; omega⟩
          · have hkn : k = Yb.length + Ob.length := by omega
            subst hkn
            have hz : Yb.length + Ob.length - Yb.length = Ob.length := by omega
            rw [hz]
            go_wp2
            rw [← HM.out]
            exact ⟨rfl, (HX10.out.trans HX11.out).trans HX.out⟩
    · have hE' : ((x.log.coll major F).2.2 != 0) = true := by simpa using hE
      generalize (x.log.coll major F).2.2 = E at hE' ⊢
      clear hE L7
      go_wp2_with fail
      rw [← HM.out]
      exact ⟨rfl, H8.out.ext⟩
end Go.Proofs.Ytikigppfnhilhaa
