/- HeapOrders behind a major collection: the walk. -/
import Derived.Test.YtikigppfnhilhaaKM
namespace Go.Proofs.Ytikigppfnhilhaa
open Go.RowKit Go.Instr
set_option linter.unusedVariables false
set_option linter.unusedSimpArgs false
attribute [local go_sem] Oper.semAt_some

set_option maxRecDepth 100000 in
set_option maxHeartbeats 8000000 in
theorem HeapOrdersT_any (young old : Int) {lv rv : Value} {l : List Ac} {roots : List Wd} (again : Bool) {w : World} (hl : RdA w lv l) (hn : l.length ≤ 1048576) (hroots : ∀ x ∈ l, x.roots.length ≤ 1048576)
    (hrr : RdW w rv roots) (hrn : roots.length ≤ 1048576) :
    Calls Try.prog 6 #[.int .i64 young, .int .i64 old, lv, rv, .bool true, .bool again] w (TrueR w) := by
  have HL := Lib.hid hl; have Hroots := Lib.hid hroots; have HRR := Lib.hid hrr
  obtain ⟨ra, rc, rfl, -, -⟩ := hrr
  generalize hM : TrueR w = M
  have HM := Lib.hid hM
  clear hl hroots hM
  go_enter Try.func6, Try.ntmps6
  go_wp2_with fail
  refine (awake_any _).mono ?_
  rintro e w2 ⟨rfl, hx2⟩
  have HX2 := Lib.hid hx2
  clear hx2
  have HP := Lib.hid (play_any young old (HL.out.ext HX2.out) hn Hroots.out)
  go_wp2_with fail
  refine HP.out.mono ?_
  rintro e w3 (⟨rfl, hx3⟩ | ⟨hp, x, rfl, h3, hy0, hy3, ho0, ho3⟩)
  · go_wp2
    rw [← HM.out]
    exact ⟨rfl, HX2.out.trans hx3⟩
  · have H3 := Lib.hid (h3.rebase HX2.out)
    clear h3 HP
    have HCb := Lib.hid H3.out.blocks
    go_wp2_with fail
    refine HCb.out.mono ?_
    rintro e W4 ⟨ba, bc, vs, rfl, hob, hx4⟩
    have H4 := Lib.hid (H3.out.later hx4)
    have HO4 := Lib.hid hob
    have Hs3 : Hid (∀ k, w3.heap.size ≤ k → ¬ x.fp k) := Lib.hid fun k hk => fun hf => by have := H3.out.rep.fp_lt k hf; omega
    have hall := H3.out.all_len
    have Hz4 := Lib.hid hx4.size
    obtain ⟨AL, hAL⟩ : ∃ AL, x.log.all = AL := ⟨_, rfl⟩
    have HB4 := Lib.hid (rdB_of_own hob)
    rw [hAL] at HB4 HO4 hall ⊢
    have HAL := Lib.hid hAL
    have Hall := Lib.hid hall
    clear hx4 hob HCb hAL H3
    go_wp2_with fail
    go_loopw [17, 18] (fun r i wr => ∃ k : Nat, k ≤ AL.length ∧ i = .int .i64 k ∧ Hid (wr.ownsRow W4.heap.size 33 6 r k (flatL ((AL.take k).map fun b => refWd b.at_))) ∧ Hid (Ext W4 wr)) (fun r i wr => AL.length - (intOf i).toNat)
    case atStart => exact ⟨0, Nat.zero_le _, rfl, Lib.hid (World.ownsRow_nil _ _ _ _), Lib.hid (Ext.refl W4)⟩
    case round =>
    obtain ⟨k, hk, rfl, HO, HX⟩ := hrel
    by_cases hlt : k < AL.length
    · obtain ⟨b, hb⟩ : ∃ b, AL[k]? = some b := ⟨_, List.getElem?_eq_getElem hlt⟩
      obtain ⟨ad, rfl⟩ := HB4.out.some (by rintro e; rw [e] at hb; simp at hb)
      obtain ⟨A, hA⟩ : ∃ A, ad.add (k * 3) = A := ⟨_, rfl⟩
      obtain ⟨su, a0, -, -, -⟩ := (HB4.out.ext HX.out).at_ hb hA
      have Hb := Lib.hid hb
      obtain ⟨A0, hA0⟩ : ∃ A0, b.at_ = A0 := ⟨_, rfl⟩
      rw [hA0] at a0
      have HA0 := Lib.hid hA0
      clear hb hA0
      obtain ⟨i0, hi, hz0, hz1, hz2⟩ := info_parts info_wordC
      go_wp2_with (at_builtin; refine wpList_append_fresh rfl _ _ 23 rfl W4.heap.size 33 i0 _ 6 56 Try.underlying23 hi hz0 hz1 hz2 rfl (by decide) _ k (flatL ((AL.take k).map fun b => refWd b.at_)) rfl (own_ext HO.out ((Ext.refl wr).alloc _)) ⟨wr.heap.size, 0, none⟩ 1 1 (refWd A0).cells rfl rfl ?c1 ?c2 ?c3 ?c4 ?c5 ?_)
      case c1 =>
        intro j z hz
        rw [show (⟨wr.heap.size, 0, none⟩ : Addr).add j = ⟨wr.heap.size, j, none⟩ from by unfold Addr.add; split <;> simp_all]
        rw [(Blk.new wr _ _).cell j]
        simpa [Wd.cells, refWd] using hz
      case c2 => exact fun z hz => flatL_one [refWd A0] z (by simpa [flatL] using hz)
      case c3 => unfold maxLen; omega
      case c4 => omega
      case c5 => simp; have := HX.out.size; omega
      intro v' w6 hown hgrow hnil hfresh
      have hrow : ∀ j, u17.ownBlock = some j → W4.heap.size ≤ j := fun j e => (HO.out.lt j e).1
      have HX6 : Hid (Ext W4 w6) := Lib.hid ((HX.out.alloc _).grown hgrow fun j e => .inr (hrow j e))
      have Hown := Lib.hid hown
      clear hown hgrow hnil hfresh hrow a0 hi hz0 hz1 hz2
      go_wp2
      refine ⟨⟨k + 1, by omega, by simp, ?_, HX6⟩, by simp only [intOf]; omega⟩
      have := Hown.out
      rw [List.take_add_one, Hb.out, List.map_append, flatL_append]
      refine Lib.hid ?_
      simpa [flatL, HA0.out] using this
    · have hkn : k = AL.length := by omega
      subst hkn
      rw [List.take_length] at HO
      have HX5 := Lib.hid HX.out
      have H5 := Lib.hid (H4.out.later HX.out)
      have HO5 := Lib.hid (HO4.out.keeps HX.out fun _ _ h => h)
      obtain ⟨aa, ac, rfl⟩ := own_slice HO.out
      have HA5 := Lib.hid HO.out
      have Hz5 := Lib.hid HX.out.size
      have hO5 := HO5.out
      rw [← HAL.out] at hO5
      have hlenA := Hall.out
      rw [← HAL.out] at hlenA
      have HFX := Lib.hid (fixed_near (rdB_of_own hO5) hlenA (Ac.ofRoots roots) ra roots.length rc (HRR.out.ext H5.out.ext) (Nat.le_trans hrn (by omega)) rfl)
      rw [HAL.out] at HFX
      clear hO5 hlenA HO HX H4 HO4 HB4
      go_wp2_with fail
      refine HFX.out.mono ?_
      rintro e w5 ⟨rv', rfl, hro, hx5⟩
      rw [fixedA_ofRoots] at hro
      obtain ⟨fa, fc, rfl⟩ := own_slice hro
      have HRo := Lib.hid hro
      have H5b := Lib.hid (H5.out.later hx5)
      have HA5b := Lib.hid (own_ext HA5.out hx5)
      have Hz5b := Lib.hid hx5.size
      clear hro hx5 HFX H5 HA5 HO5
      generalize fixedA AL (Ac.ofRoots roots) = Y
      unfold Ac.cells
      go_wp2_with fail
      obtain ⟨s5, hs5⟩ : ∃ s5, w5.heap.size = s5 := ⟨_, rfl⟩
      obtain ⟨w6, hw6⟩ : ∃ w6, w5.alloc (.cells #[.int .i64 Y.kind, .int .i64 Y.a, .int .i64 Y.b, .int .i64 Y.w.tag, .int .i64 Y.w.a, .int .i64 Y.w.b, .string Y.w.text, .int .i64 Y.w.man, .int .i64 Y.w.exp, .slice fa (fixR AL roots).length fc, .bool Y.near] 35) = w6 := ⟨_, rfl⟩
      have hx6 : Ext w5 w6 := by rw [← hw6]; exact (Ext.refl _).alloc _
      have H6 := Lib.hid (H5b.out.later hx6)
      have HA6 := Lib.hid (own_ext HA5b.out hx6)
      have HRo6 := Lib.hid (own_ext HRo.out hx6)
      have Hz6 := Lib.hid hx6.size
      rw [hw6]
      clear hw6 hx6 hs5 H5b HA5b HRo
      obtain ⟨F, hF⟩ : ∃ F, fixR AL roots = F := ⟨_, rfl⟩
      have hFl : F.length ≤ 1048576 := by rw [← hF]; unfold fixR; rw [List.length_map]; exact hrn
      rw [hF] at HRo6 ⊢
      clear hF
      have HRe := Lib.hid (H6.out.reachO (rdW_of_own HRo6.out) hFl)
      refine HRe.out.mono ?_
      rintro e W7 ⟨rv7, rfl, hr7, hx7⟩
      have H7 := Lib.hid (H6.out.later hx7)
      have HA7 := Lib.hid (own_ext HA6.out hx7)
      have Hz7 := Lib.hid hx7.size
      obtain ⟨qa, qc, rfl⟩ := own_slice hr7
      have Hok := Lib.hid H7.out.rep.ok.lok
      have HalO := Lib.hid H7.out.rep.ok
      have Hinv := Lib.hid H7.out.inv
      obtain ⟨RL, hRL⟩ : ∃ RL, x.log.reachB F = RL := ⟨_, rfl⟩
      rw [hRL] at hr7 ⊢
      have HRL := Lib.hid hRL
      have HR7 := Lib.hid hr7
      have hRlen : RL.length ≤ 1000000 := by
        have h1 : (x.log.reachB F).length ≤ x.log.all.length := by
          unfold LH.reachB; split
          · simp
          · unfold LH.reach; rw [List.length_map]; exact List.length_filter_le _ _
        rw [hRL, HAL.out] at h1
        exact Nat.le_trans h1 Hall.out
      clear hr7 hx7 HRe hRL H6 HA6 HRo6
      obtain ⟨E7, hE7⟩ : ∃ E7 : Int, (if F.any x.log.bad = true then 1 else 0) = E7 := ⟨_, rfl⟩
      rw [hE7]
      have HE7 := Lib.hid hE7
      clear hE7
      go_wp2_with fail
      go_loopw [22, 23] (fun r i wq => ∃ k : Nat, k ≤ RL.length ∧ i = .int .i64 k ∧ Hid (wq.ownsRow W7.heap.size 33 6 r k (flatL ((RL.take k).map refWd))) ∧ Hid (Ext W7 wq)) (fun r i wq => RL.length - (intOf i).toNat)
      case atStart => exact ⟨0, Nat.zero_le _, rfl, Lib.hid (World.ownsRow_nil _ _ _ _), Lib.hid (Ext.refl W7)⟩
      case round =>
      obtain ⟨k, hk, rfl, HO, HX⟩ := hrel
      by_cases hlt : k < RL.length
      · obtain ⟨A0, hA0⟩ : ∃ A0, RL[k]? = some A0 := ⟨_, List.getElem?_eq_getElem hlt⟩
        obtain ⟨g, c, e, d0⟩ := ownI_getO (own_ext HR7.out HX.out) hA0
        injection e with e e2 e3; subst e; clear e2 e3
        have Hb := Lib.hid hA0
        clear hA0
        obtain ⟨i0, hi, hz0, hz1, hz2⟩ := info_parts info_wordC
        go_wp2_with (at_builtin; refine wpList_append_fresh rfl _ _ 23 rfl W7.heap.size 33 i0 _ 6 56 Try.underlying23 hi hz0 hz1 hz2 rfl (by decide) _ k (flatL ((RL.take k).map refWd)) rfl (own_ext HO.out ((Ext.refl wr).alloc _)) ⟨wr.heap.size, 0, none⟩ 1 1 (refWd A0).cells rfl rfl ?c1 ?c2 ?c3 ?c4 ?c5 ?_)
        case c1 =>
          intro j z hz
          rw [show (⟨wr.heap.size, 0, none⟩ : Addr).add j = ⟨wr.heap.size, j, none⟩ from by unfold Addr.add; split <;> simp_all]
          rw [(Blk.new wr _ _).cell j]
          simpa [Wd.cells, refWd] using hz
        case c2 => exact fun z hz => flatL_one [refWd A0] z (by simpa [flatL] using hz)
        case c3 => unfold maxLen; omega
        case c4 => omega
        case c5 => simp; have := HX.out.size; omega
        intro v' w6 hown hgrow hnil hfresh
        have hrow : ∀ j, u22.ownBlock = some j → W7.heap.size ≤ j := fun j e => (HO.out.lt j e).1
        have HX6 : Hid (Ext W7 w6) := Lib.hid ((HX.out.alloc _).grown hgrow fun j e => .inr (hrow j e))
        have Hown := Lib.hid hown
        clear hown hgrow hnil hfresh hrow d0 hi hz0 hz1 hz2
        go_wp2
        refine ⟨⟨k + 1, by omega, by simp, ?_, HX6⟩, by simp only [intOf]; omega⟩
        have := Hown.out
        rw [List.take_add_one, Hb.out, List.map_append, flatL_append]
        refine Lib.hid ?_
        simpa [flatL] using this
      · have hkn : k = RL.length := by omega
        subst hkn
        rw [List.take_length] at HO
        have HX8 := Lib.hid HX.out
        have H8 := Lib.hid (H7.out.later HX.out)
        have HA8 := Lib.hid (own_ext HA7.out HX.out)
        obtain ⟨ka, kc, rfl⟩ := own_slice HO.out
        have HF8 := Lib.hid HO.out
        have Hz8 := Lib.hid HX.out.size
        clear HO HX H7 HA7 HR7
        have H9Y : Hid (x.log.Y = young) := Lib.hid H8.out.Y
        by_cases hbad : F.any x.log.bad = true
        · have hE7 : E7 = 1 := by rw [← HE7.out, if_pos hbad]
          subst hE7
          clear hbad
          go_wp2_with fail
          rw [← HM.out]
          exact ⟨rfl, H8.out.ext⟩
        · have hE7 : E7 = 0 := by rw [← HE7.out, if_neg hbad]
          subst hE7
          have hsort := HalO.out.all_lt
          rw [HAL.out] at hsort
          clear HA8
          have hre : RL = x.log.reach F := by rw [← HRL.out]; unfold LH.reachB; rw [if_neg hbad]
          obtain ⟨L, hL⟩ : ∃ L, RL = L := ⟨_, rfl⟩
          have hLl : L.length ≤ 1000000 := by rw [← hL]; exact hRlen
          have HFr : Hid (wr.ownsRow W7.heap.size 33 6 (.slice ka L.length kc) (L.map refWd).length (flatL (L.map refWd))) := Lib.hid (by
            have := HF8.out
            rw [List.length_map, ← hL]; exact this)
          have HB0 : Hid (w3.heap.size ≤ W7.heap.size) := Lib.hid (by have := Hz4.out; have := Hz5.out; have := Hz5b.out; have := Hz6.out; have := Hz7.out; omega)
          have HsubL : Hid (∀ a ∈ L, a ∈ x.log.all.map Bk.at_) := Lib.hid (by
            rw [← hL, hre]; unfold LH.reach
            exact fun a h => (List.filter_sublist.map Bk.at_).subset h)
          have Hsort : Hid (L.Pairwise (· < ·)) := Lib.hid (by rw [← hL, hre]; exact reach_lt HalO.out F)
          rw [hL]
          obtain ⟨pa, hpa⟩ : ∃ pa, ka = pa := ⟨_, rfl⟩
          obtain ⟨pc, hpc⟩ : ∃ pc, kc = pc := ⟨_, rfl⟩
          rw [hpa, hpc] at HFr ⊢
          clear hre hL hsort hbad hpa hpc HF8 HRL HE7
          obtain ⟨w8z, hw8z⟩ : ∃ w8z, wr.heap.size = w8z := ⟨_, rfl⟩
          have HC := Lib.hid (collectC_any H8.out (rdW_of_own HFr.out) (fun _ k hk => Hs3.out k (by have := (HFr.out.lt k hk).1; have := HB0.out; omega)) (by rw [List.length_map]; exact Nat.le_trans hLl (by omega)) true)
          go_wp2_with fail
          refine HC.out.mono ?_
          rintro e w9 ⟨v', rfl, hn9, ⟨x', h9, l9, a9⟩, hk9⟩
          have H9 := Lib.hid h9
          have HFr9 := Lib.hid (ownsRow_keeps HFr.out fun k hk => hk9.block k (HFr.out.lt k hk).2 (Hs3.out k (by have := (HFr.out.lt k hk).1; have := HB0.out; omega)))
          have HN9 := Lib.hid hn9
          rw [hw8z] at HN9
          have L9 := Lib.hid l9
          obtain ⟨na, nc, rfl⟩ := own_slice hn9
          have HNd : Hid (∀ n k, Value.ownBlock (.slice na n nc) = some k → ¬ x'.fp k) := Lib.hid fun n k hk0 => by
            have hk : Value.ownBlock (.slice na (x.log.coll true (L.map refWd)).2.1.length nc) = some k := by
              cases na with
              | none => simp [Value.ownBlock] at hk0
              | some a => simpa [Value.ownBlock] using hk0
            obtain ⟨cur, hc⟩ := ownsRow_type hn9 hk
            refine h9.rep.notWords hc fun hm => ?_
            have h1 := (hn9.lt k hk).1
            have h2 := H8.out.rep.fp_lt k (.inr (.inr (.inr (.inr (.inr (.inr (a9 k hm)))))))
            omega
          clear h9 l9 a9 hk9 hn9 hw8z HC H8 HFr
          by_cases hE : (x.log.coll true (L.map refWd)).2.2 = 0
          · obtain ⟨f, ford, hnow⟩ := coll_ord Hok.out HsubL.out (fun e => by cases e) hE
            obtain ⟨N, hN⟩ : ∃ N, L.map f = N := ⟨_, rfl⟩
            have Hord := Lib.hid ford
            have hYY : x.log.Y = young := H9Y.out
            rw [hYY] at Hord
            have HNf := Lib.hid hN
            have hNl : N.length = L.length := by rw [← hN, List.length_map]
            rw [hnow, hN, List.length_map, hNl] at HN9
            rw [hE, hnow, hN, List.length_map, hNl]
            have HE := Lib.hid hE
            have Hnow : Hid ((x.log.coll true (L.map refWd)).2.1 = N.map refWd) := Lib.hid (by rw [hnow, hN])
            clear hE hnow hN ford hYY
            go_wp2_with fail
            go_loopw [26] (fun i wr => ∃ j K1 : Nat, K1 = j + 1 ∧ (K1 ≤ L.length ∨ j = 0) ∧ i = .int .i64 K1 ∧ Hid (Ext w9 wr)) (fun i wr => L.length - (intOf i).toNat)
            case atStart => exact ⟨0, 1, rfl, .inr rfl, rfl, Lib.hid (Ext.refl w9)⟩
            case round =>
            obtain ⟨j, K1, hK1, hk, rfl, HX⟩ := hrel
            by_cases hlt : K1 < L.length
            · obtain ⟨a, ha⟩ : ∃ a, L[j]? = some a := ⟨_, List.getElem?_eq_getElem (by omega)⟩
              obtain ⟨b, hb⟩ : ∃ b, L[K1]? = some b := ⟨_, List.getElem?_eq_getElem hlt⟩
              have hab : a < b := by
                obtain ⟨h1, h2⟩ := List.getElem?_eq_some_iff.1 ha
                obtain ⟨h3, h4⟩ := List.getElem?_eq_some_iff.1 hb
                rw [← h2, ← h4]; exact List.pairwise_iff_getElem.1 Hsort.out j K1 h1 h3 (by omega)
              obtain ⟨c, hc⟩ : ∃ c, f a = c := ⟨_, rfl⟩
              obtain ⟨d, hd⟩ : ∃ d, f b = d := ⟨_, rfl⟩
              have o1 := Hord.out.same a (List.mem_of_getElem? ha) b (List.mem_of_getElem? hb) hab
              have o2 := Hord.out.over a (List.mem_of_getElem? ha) b (List.mem_of_getElem? hb)
              rw [hc, hd] at o1 o2
              have hfa : (L.map refWd)[j]? = some (refWd a) := by rw [List.getElem?_map, ha]; rfl
              have hfb : (L.map refWd)[K1]? = some (refWd b) := by rw [List.getElem?_map, hb]; rfl
              have hna : (N.map refWd)[j]? = some (refWd c) := by rw [← HNf.out, List.getElem?_map, List.getElem?_map, ha, ← hc]; rfl
              have hnb : (N.map refWd)[K1]? = some (refWd d) := by rw [← HNf.out, List.getElem?_map, List.getElem?_map, hb, ← hd]; rfl
              have hFr := own_ext HFr9.out HX.out
              have hNr := own_ext HN9.out HX.out
              have r1 : RdW wr (.slice pa L.length pc) (L.map refWd) := rdW_of_own hFr
              have r2 : RdW wr (.slice na L.length nc) (N.map refWd) := rdW_of_own (by rw [List.length_map, hNl]; exact hNr)
              obtain ⟨pd, rfl⟩ : ∃ pd, pa = some pd := by
                cases pa with
                | some pd => exact ⟨pd, rfl⟩
                | none => obtain ⟨_, _, e, h1, _⟩ := r1; injection e with e; rw [h1 e.symm] at hfa; simp at hfa
              obtain ⟨nd, rfl⟩ : ∃ nd, na = some nd := by
                cases na with
                | some nd => exact ⟨nd, rfl⟩
                | none => obtain ⟨_, _, e, h1, _⟩ := r2; injection e with e; rw [h1 e.symm] at hna; simp at hna
              obtain ⟨A1, hA1⟩ : ∃ A1, pd.add (j * 6) = A1 := ⟨_, rfl⟩
              obtain ⟨A2, hA2⟩ : ∃ A2, pd.add (K1 * 6) = A2 := ⟨_, rfl⟩
              obtain ⟨A3, hA3⟩ : ∃ A3, nd.add (j * 6) = A3 := ⟨_, rfl⟩
              obtain ⟨A4, hA4⟩ : ∃ A4, nd.add (K1 * 6) = A4 := ⟨_, rfl⟩
              have c1 : wr.cell? { block := A1.block, off := A1.off + (0 + 1) } = some (.int .i64 a) := (r1.six hfa hA1).c1
              have c2 : wr.cell? { block := A2.block, off := A2.off + (0 + 1) } = some (.int .i64 b) := (r1.six hfb hA2).c1
              have c3 : wr.cell? { block := A3.block, off := A3.off + (0 + 1) } = some (.int .i64 c) := (r2.six hna hA3).c1
              have c4 : wr.cell? { block := A4.block, off := A4.off + (0 + 1) } = some (.int .i64 d) := (r2.six hnb hA4).c1
              have hj : (K1 : Int) - 1 = (j : Int) := by omega
              have hj1 : j < L.length := by omega
              have hnext : Hid (∀ W, Ext wr W → ∃ j K1', K1' = j + 1 ∧ (K1' ≤ L.length ∨ j = 0) ∧ Value.int .i64 (K1 + 1) = .int .i64 (K1' : Nat) ∧ Hid (Ext w9 W)) := Lib.hid fun W hW => ⟨K1, K1 + 1, rfl, .inl hlt, by simp, Lib.hid (HX.out.trans hW)⟩
              have hmeas : Hid (L.length - (intOf (.int .i64 ((K1 : Int) + 1))).toNat < L.length - (intOf (.int .i64 (K1 : Int))).toNat) := Lib.hid (by simp only [intOf]; omega)
              clear ha hb hc hd hfa hfb hna hnb hFr hNr r1 r2 hK1 hk
              go_wp2_with fail
              have Hc1 := Lib.hid o1; have Hc2 := Lib.hid o2
              clear o1 o2
              by_cases hs : (a ≤ young ↔ b ≤ young)
              · by_cases ht : (c ≤ young ↔ d ≤ young)
                · have hcd : c < d := Hc1.out hs ht
                  have hcd2 : ¬ d ≤ c := by omega
                  go_big_region
                  go_wp2_with fail
                  clear ht hcd hcd2
                  by_cases ha : a ≤ young
                  · have hb : ¬ young < b := by omega
                    clear hs
                    go_big_region
                    go_wp2_with fail
                    exact ⟨hnext.out _ (Ext.refl _).drew.drew, hmeas.out⟩
                  · clear hs
                    go_big_region
                    go_wp2_with fail
                    exact ⟨hnext.out _ (Ext.refl _).drew.drew, hmeas.out⟩
                · by_cases hc : c ≤ young
                  · have hd : ¬ d ≤ young := by omega
                    clear ht
                    go_big_region
                    go_wp2_with fail
                    clear hc hd
                    by_cases ha : a ≤ young
                    · have hb : ¬ young < b := by omega
                      clear hs
                      go_big_region
                      go_wp2_with fail
                      exact ⟨hnext.out _ (Ext.refl _).drew.drew, hmeas.out⟩
                    · clear hs
                      go_big_region
                      go_wp2_with fail
                      exact ⟨hnext.out _ (Ext.refl _).drew.drew, hmeas.out⟩
                  · have hd : d ≤ young := by omega
                    clear ht
                    go_big_region
                    go_wp2_with fail
                    clear hc hd
                    by_cases ha : a ≤ young
                    · have hb : ¬ young < b := by omega
                      clear hs
                      go_big_region
                      go_wp2_with fail
                      exact ⟨hnext.out _ (Ext.refl _).drew.drew, hmeas.out⟩
                    · clear hs
                      go_big_region
                      go_wp2_with fail
                      exact ⟨hnext.out _ (Ext.refl _).drew.drew, hmeas.out⟩
              · have hA : a ≤ young := by omega
                have hB : ¬ b ≤ young := by omega
                clear hs
                go_big_region
                go_wp2_with fail
                have hA : a ≤ young := by omega
                have hB : young < b := by omega
                by_cases hc : young < c
                · have hcd : ¬ c ≤ d := by have := Hc2.out hA hB hc; omega
                  go_big_region
                  go_wp2_with fail
                  exact ⟨hnext.out _ (Ext.refl _).drew.drew, hmeas.out⟩
                · go_big_region
                  go_wp2_with fail
                  exact ⟨hnext.out _ (Ext.refl _).drew.drew, hmeas.out⟩
            · have H10 := Lib.hid (H9.out.later HX.out)
              have hNr := own_ext HN9.out HX.out
              have HN10 : Hid (wr.ownsRow w8z 33 6 (.slice na (N.map refWd).length nc) (N.map refWd).length (flatL (N.map refWd))) := Lib.hid (by rw [List.length_map, hNl]; exact hNr)
              have HNlen : Hid (L.length = (N.map refWd).length) := Lib.hid (by rw [List.length_map, hNl])
              clear HX H9 HFr9 HN9 hNr
              rw [HNlen.out]
              obtain ⟨NW, hNW⟩ : ∃ NW, N.map refWd = NW := ⟨_, rfl⟩
              rw [HNlen.out] at hlt
              rw [hNW] at HN10 HNlen Hnow hlt ⊢
              have HNl2 : Hid (NW.length ≤ 1048576) := Lib.hid (by rw [← HNlen.out]; omega)
              clear hNW
              have Hok' : Hid (LOk x'.log) := Lib.hid H10.out.rep.ok.lok
              have Hok2 : Hid (LOk (x.log.coll true (L.map refWd)).1) := Lib.hid (by rw [← L9.out]; exact Hok'.out)
              have HmA := Lib.hid (major_reach Hok.out Hinv.out (roots := L.map refWd) Hok2.out HE.out)
              obtain ⟨KK, MM, hmv⟩ := coll_mvd Hok.out Hinv.out Hok2.out HE.out
              have Hg : Hid (NW.any x'.log.bad = false) := Lib.hid (by
                have := hmv.now_good
                rw [Hnow.out] at this
                rw [L9.out]; exact this)
              have Hre : Hid (x'.log.reachB NW = x'.log.all.map Bk.at_) := Lib.hid (by
                have e1 : x'.log = (x.log.major (L.map refWd)).1 := L9.out
                have e2 : (x.log.major (L.map refWd)).2.1 = NW := Hnow.out
                rw [e1, ← e2]; exact HmA.out)
              clear hmv HmA
              have HFe := Lib.hid H10.out.free
              go_wp2_with fail
              refine HFe.out.mono ?_
              rintro e w11 ⟨rfl, hx11⟩
              have H11 := Lib.hid (H10.out.later hx11)
              have HN11 := Lib.hid (own_ext HN10.out hx11)
              clear hx11 HFe H10 HN10
              by_cases hyb : bused x'.log.yb = 0
              · have Hyb := Lib.hid (yb_empty hyb)
                obtain ⟨g1, g2, g3⟩ := again_same Hok'.out Hyb.out Hg.out Hre.out again
                have G1 := Lib.hid g1; have G2 := Lib.hid g2; have G3 := Lib.hid g3
                have hne : (young - bused x'.log.yb != young) = false := by rw [hyb]; simp
                clear g1 g2 g3 hyb
                generalize bused x'.log.yb = ub at hne ⊢
                generalize bused x'.log.ob = uo
                have hne2 : young - ub = young := by simpa using hne
                rw [hne2]
                clear hne hne2
                have HCb := Lib.hid H11.out.blocks
                go_wp2_with fail
                refine HCb.out.mono ?_
                rintro e w12 ⟨ca, cc, vs12, rfl, hob12, hx12⟩
                have H12 := Lib.hid (H11.out.later hx12)
                have HN12 := Lib.hid (own_ext HN11.out hx12)
                have HO12 := Lib.hid hob12
                have Hs12 : Hid (∀ k, w11.heap.size ≤ k → ¬ x'.fp k) := Lib.hid fun k hk => fun hf => by have := H11.out.rep.fp_lt k hf; omega
                have HNfp : Hid (∀ k, Value.ownBlock (.slice na NW.length nc) = some k → ¬ x'.fp k) := Lib.hid (HNd.out _)
                have Hal' := Lib.hid H12.out.all_len
                have Hwl' : Hid (∀ b ∈ x'.log.all, b.ws.length ≤ 2000000) := Lib.hid fun b hb => by
                  rw [log_all] at hb
                  obtain ⟨z, hz, rfl⟩ := List.mem_map.1 hb
                  have := H12.out.rep.ok.len hz; omega
                clear hob12 hx12 HCb H11 HN11
                have HC2 := Lib.hid (collect_any H12.out (rdW_of_own HN12.out) (fun _ k hk => HNfp.out k hk) HNl2.out again)
                go_wp2_with fail
                refine HC2.out.mono ?_
                rintro e w13 ⟨v13, rfl, hn13, ⟨x13, h13, l13⟩, hk13⟩
                rw [G1.out]
                have h13n := hn13
                rw [G2.out] at h13n
                have H13 := Lib.hid h13
                have HS13 := Lib.hid h13n
                have HN13 := Lib.hid (ownsRow_keeps HN12.out fun k hk => hk13.block k (HN12.out.lt k hk).2 (HNfp.out k hk))
                have HO13 := Lib.hid (HO12.out.keeps hk13 fun k hk => Hs12.out k hk)
                have Hal13 := Lib.hid H13.out.all_len
                have Hwl13 : Hid (∀ b ∈ x13.log.all, b.ws.length ≤ 2000000) := Lib.hid fun b hb => by
                  rw [log_all] at hb
                  obtain ⟨z, hz, rfl⟩ := List.mem_map.1 hb
                  have := H13.out.rep.ok.len hz; omega
                have Hsame : Hid (x'.log.all = x13.log.all) := Lib.hid (by rw [l13]; exact G3.out.symm)
                obtain ⟨sa, sc, rfl⟩ := own_slice h13n
                clear h13 l13 hk13 hn13 h13n HC2 H12 HN12 HO12 G1 G2 G3
                go_wp2_with fail
                refine (sameWords_any (rdW_of_own HS13.out) (rdW_of_own HN13.out) (Nat.le_trans HNl2.out (by omega)) (Nat.le_trans HNl2.out (by omega))).mono ?_
                rintro e w14 ⟨rfl, hx14⟩
                rw [decide_eq_true rfl]
                have H14 := Lib.hid (H13.out.later hx14)
                have HO14 := Lib.hid (HO13.out.keeps hx14 fun _ _ h => h)
                clear hx14 H13 HO13 HN13 HS13
                have HCb := Lib.hid H14.out.blocks
                go_wp2_with fail
                refine HCb.out.mono ?_
                rintro e w15 ⟨da, dc, vs15, rfl, hob15, hx15⟩
                have HO15 := Lib.hid (HO14.out.keeps hx15 fun _ _ h => h)
                have HP15 := Lib.hid hob15
                have HX15 := Lib.hid (H14.out.ext.trans hx15)
                clear hob15 hx15 HCb H14 HO14
                go_wp2_with fail
                refine (sameBlocks_any (rdB_of_own HO15.out) (rdB_of_own HP15.out) (Nat.le_trans Hal'.out (by omega)) (Nat.le_trans Hal13.out (by omega)) Hwl'.out Hwl13.out).mono ?_
                rintro e w16 ⟨rfl, hx16⟩
                rw [decide_eq_true Hsame.out]
                go_wp2_with fail
                rw [← HM.out]
                exact ⟨rfl, HX15.out.trans hx16⟩
              · have hne : (young - bused x'.log.yb != young) = true := by simp; omega
                generalize young - bused x'.log.yb = fy at hne ⊢
                generalize old - bused x'.log.ob = fo
                clear hyb
                go_wp2_with fail
                rw [← HM.out]
                exact ⟨rfl, H11.out.ext⟩
          · obtain ⟨hm, he2⟩ := coll_few_err HsubL.out hE
            rw [he2]
            cases hm
end Go.Proofs.Ytikigppfnhilhaa
