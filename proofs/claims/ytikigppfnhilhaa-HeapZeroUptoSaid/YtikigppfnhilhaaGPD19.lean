/- Minor. -/
import Derived.Test.YtikigppfnhilhaaGPD18
import Derived.WalkMore
/- Minor. -/
namespace Go.Proofs.Ytikigppfnhilhaa
open Go.RowKit Go.Instr
set_option linter.unusedVariables false
set_option linter.unusedSimpArgs false

theorem any_log (x : PH) (roots : List Wd) : roots.any x.bad = roots.any x.log.bad := by
  congr 1; funext u; exact (log_bad x u).symm

theorem Iter.own_ne {w : World} {mv : Value} {r : Nat} {es : Array MapEntry} {ck : Nat} {done : List Value} (h : Iter w mv r es ck done) {base : Nat} {e : TypeId} {size n : Nat} {v : Value} {xs : List Value} (ho : w.ownsRow base e size v n xs) : v.ownBlock ≠ some r := fun hk => by
  obtain ⟨m, since, seen, c0, h1, _⟩ := h.it
  obtain ⟨cur, hc⟩ := ownsRow_type ho hk
  unfold Blk at hc; rw [h1] at hc; cases hc

set_option maxRecDepth 100000 in
set_option maxHeartbeats 2000000 in
theorem Minor_bad {w : World} {base : Nat} {x : PH} (h : HRep w base x) {v : Value} {roots : List Wd} (hr : RdW w v roots) (hl : roots.length ≤ 1048576) (hb : roots.any x.log.bad = true) :
    Calls Try.prog 35 #[.pointer (some ⟨x.hp, 0, none⟩), v] w fun e w' => e = .returned (.tuple #[.slice none 0 0, .int .i64 1]) ∧ Ext w w' := by
  have HV := Lib.hid (valid_any h hr (by omega))
  rw [any_log, hb] at HV
  have Hb := Lib.hid hb; clear hb
  go_enter Try.func35, Try.ntmps35
  go_wp2_with (go_at_call 44; refine HV.out.mono ?_; rintro e w1 ⟨rfl, hx⟩)
  go_ret2
  exact ⟨rfl, hx⟩

set_option maxRecDepth 100000 in
set_option maxHeartbeats 4000000 in
theorem Minor_good {w : World} {base : Nat} {x : PH} (h : HRep w base x) (hinv : LInv x.log) {v : Value} {roots : List Wd} (hr : RdW w v roots) (hd : roots ≠ [] → ∀ k, v.ownBlock = some k → ¬ x.fp k) (hl : roots.length ≤ 1048576) (hb : roots.any x.log.bad = false) :
    Calls Try.prog 35 #[.pointer (some ⟨x.hp, 0, none⟩), v] w fun e w' => ∃ v', e = .returned (.tuple #[v', .int .i64 (x.log.minor roots).2.2]) ∧ w'.ownsRow w.heap.size 33 6 v' (x.log.minor roots).2.1.length (flatL (x.log.minor roots).2.1) ∧ StepC w base x (x.log.minor roots).1 w' := by
  have HV := Lib.hid (valid_any h hr (by omega))
  rw [any_log, hb] at HV
  have Hb := Lib.hid hb; clear hb
  have HC : ∀ W, Ext w W → Calls Try.prog 38 #[v] W _ := fun W hW => CloneW_any (hr.ext hW) (by omega)
  have HHC := Lib.hid HC
  clear HC
  have Hr := Lib.hid hr; have Hd := Lib.hid hd; have Hinv := Lib.hid hinv
  clear hr hd hinv
  obtain ⟨es, ck, hrm, hre, hrg⟩ := h.rmap
  have Hrm := Lib.hid hrm; have Hre := Lib.hid hre; have Hrg := Lib.hid hrg
  clear hrm hre hrg
  obtain ⟨pp, hpp⟩ : ∃ pp : LH × List Wd × Int, pp = x.log.minor roots := ⟨_, rfl⟩
  rw [← hpp]
  have Hpp := Lib.hid hpp; clear hpp
  go_enter Try.func35, Try.ntmps35
  go_wp2_with (go_at_call 44; refine HV.out.mono ?_; rintro e w1 ⟨rfl, hx1⟩)
  refine (HHC.out w1 hx1).mono ?_
  rintro e w2 ⟨t0, rfl, hown, hx2⟩
  have HX2 : Hid (Ext w w2) := Lib.hid (hx1.trans hx2)
  have Ho2 := Lib.hid (ownsRow_base hown hx1.size)
  have k9 : w2.cell? ⟨x.hp, 9, none⟩ = some x.rv := ((h.ext HX2.out).cell 9).trans rfl
  have Hrm2 : Hid (MapV w2 x.rv es ck) := Lib.hid (Hrm.out.keep fun m hm => Ext.heap HX2.out m (h.fp_lt m (.inr (.inr (.inr (.inr (.inl hm)))))))
  clear hx1 hx2 hown
  go_wp2_with (at_range; refine wpList_range_it rfl _ 79 rfl _ _ Try.underlying79 (by rfl) Hrm2.out Hre.out.nodup Hre.out.borns Hre.out.born ?_; intro w3 hit hx3 hs3)
  go_frame
  obtain ⟨r, hr⟩ : ∃ r, r = w2.heap.size := ⟨_, rfl⟩
  rw [← hr] at hit ⊢
  have HI3 := Lib.hid hit
  have HX3 : Hid (Ext w w3) := Lib.hid (HX2.out.trans hx3)
  have Ho3 := Lib.hid (own_ext Ho2.out hx3)
  have Hwr : Hid (w.heap.size ≤ r) := Lib.hid (by rw [hr]; exact HX2.out.size)
  clear hit hx3 hs3 hr k9 Hrm2 HX2 Ho2
  go_loopw [6] (fun f wr => ∃ done : List Int, Hid (Iter wr x.rv r es ck (done.map (Value.int .i64))) ∧ Hid (Ext w wr) ∧ Hid (wr.ownsRow w.heap.size 33 6 f (roots ++ remOf x.log done).length (flatL (roots ++ remOf x.log done))) ∧ Hid (∀ k ∈ done, k ∈ x.R)) (fun f wr => itLeft wr r)
  case atStart => exact ⟨[], HI3, HX3, by simpa [remOf] using Ho3, fun k hk => by cases hk⟩
  case round =>
    clear HI3 HX3 Ho3
    obtain ⟨done, HI, HX, Ho, HD⟩ := hrel
    go_wp2_with (at_next; refine wpList_next_it rfl _ rfl rfl HI.out ?_ ?_)
    · intro hall
      have hall' : ∀ k ∈ x.R, k ∈ done := fun k hk => by
        have h1 := Hrg.out k
        rw [if_pos hk] at h1
        obtain ⟨e, he, ⟨q, hq⟩, -⟩ := esGet_mem h1
        have h2 := hall e (by simpa using he)
        obtain ⟨k', hk'⟩ := Hre.out.key e (by simpa using he)
        rw [hk'] at hq; injection hq with _ hq
        rw [hk'] at h2
        have h3 : k' ∈ done := by simpa using h2
        rw [← hq]; exact h3
      have Hfr : Hid (∀ u, u ∈ roots ++ remOf x.log done ↔ u ∈ roots ++ x.log.remW) := Lib.hid fun u => by
        show u ∈ roots ++ remOf x.log done ↔ u ∈ roots ++ remOf x.log x.R
        rw [List.mem_append, List.mem_append, remOf_mem, remOf_mem]
        constructor
        · rintro (h | ⟨k, hk, r⟩)
          · exact .inl h
          · exact .inr ⟨k, HD.out k hk, r⟩
        · rintro (h | ⟨k, hk, r⟩)
          · exact .inl h
          · exact .inr ⟨k, hall' k hk, r⟩
      have hlen : (roots ++ remOf x.log done).length ≤ 2000000 := by
        have hnd := nodup_of_map HI.out.nd
        have h1 := remOf_len (h := x.log) hnd (fun j hj => by
          obtain ⟨b, hb, e⟩ := Hinv.out.rem j (HD.out j hj); exact ⟨b, List.mem_append_right _ hb, e⟩) h.ok.log_ats
        have h2 := h.ok.used_all
        rw [List.length_append]; omega
      have Hrch := Lib.hid (reached_any (h.ext HX.out) h.ok (rdW_of_own Ho.out) hlen (gf := 43) (lead := #[.pointer (some ⟨x.hp, 0, none⟩)]) (enters_of Try.func43 (by kernel_rfl) rfl) (p := fun y => decide (y.b.at_ ≤ x.Y))
        (fun y hy W hW => (isYoung_any (h.ext (HX.out.trans hW)) ((h.ext (HX.out.trans hW)).pbs y hy)).mono fun e w' ⟨h1, n, h2⟩ => ⟨h1, by rw [h2]; exact (Ext.refl _).drewN n⟩))
      clear hall hall' hlen HI HD
      go_wp2_with fail
      refine Hrch.out.mono ?_
      rintro e w5 ⟨K, rfl, hx5, hKM, hK, hKs, hKn⟩
      obtain ⟨m, hm⟩ : ∃ m, m = wr.heap.size := ⟨_, rfl⟩
      rw [← hm] at hKM ⊢
      obtain ⟨es2, ck2, hm2, he2, hg2⟩ := hKM.ex
      have HX5 := Lib.hid (HX.out.trans hx5)
      have Hm2 : Hid (MapV w5 (.map (some m)) es2 ck2) := Lib.hid (.inr ⟨m, rfl, hm2⟩)
      have HE2 := Lib.hid he2; have HG2 := Lib.hid hg2
      have HK := Lib.hid hK; have HKs := Lib.hid hKs; have HKn := Lib.hid hKn; have HKM := Lib.hid hKM
      have Hmw : Hid (w.heap.size ≤ m) := Lib.hid (by rw [hm]; exact HX.out.size)
      clear Ho Hrch hx5 hm hm2 he2 hg2 hK hKs hKn hKM HX
      go_wp2_with (at_range; refine wpList_range_it rfl _ 101 rfl _ _ Try.underlying101 (by rfl) Hm2.out HE2.out.nodup HE2.out.borns HE2.out.born ?_; intro w6 hit hx6 hs6)
      go_frame
      obtain ⟨r2, hr2⟩ : ∃ r2, r2 = w5.heap.size := ⟨_, rfl⟩
      rw [← hr2] at hit ⊢
      have HI6 := Lib.hid hit
      have HX6 : Hid (Ext w w6) := Lib.hid (HX5.out.trans hx6)
      have HKM6 : Hid (KMap w6 m K) := Lib.hid (HKM.out.keep (Ext.heap hx6 m (by obtain ⟨es, ck, h1, _⟩ := HKM.out.ex; exact (Array.getElem?_eq_some_iff.1 h1).1)))
      have Hwr2 : Hid (w.heap.size ≤ r2) := Lib.hid (by rw [hr2]; exact HX5.out.size)
      clear hit hx6 hs6 hr2 Hm2 HX5 HKM Hrm Hre Hrg Hwr HHC HV
      go_loopw [9] (fun n wr => ∃ done : List PB, Hid (Iter wr (.map (some m)) r2 es2 ck2 (done.map PB.ptr)) ∧ n = .int .i64 (bused (done.map PB.b)) ∧ Hid (Ext w wr) ∧ Hid (KMap wr m K) ∧ Hid (∀ y ∈ done, y ∈ K)) (fun f wr => itLeft wr r2)
      case atStart => exact ⟨[], HI6, by simp [bused], HX6, HKM6, fun y hy => by cases hy⟩
      case round =>
        clear HI6 HX6 HKM6
        obtain ⟨done2, HI, rfl, HX, HKM, HD⟩ := hrel
        have hnd2 : (done2.map PB.p).Nodup := by
          have h1 := HI.out.nd
          have h2 := nodup_of_map (f := PB.ptr) h1
          refine nodup_map_of (f := PB.p) h2 fun a ha b hb e => ?_
          exact inj_of_nodup h.ps (HKs.out a (HD.out a ha)) (HKs.out b (HD.out b hb)) e
        have hb0 : 0 ≤ bused (done2.map PB.b) := bused_nonneg _
        have hb1 : bused (done2.map PB.b) ≤ 200000 := by
          have h1 := bused_sub (nodup_of_map hnd2) fun k hk => HKs.out k (HD.out k hk)
          have h2 := h.ok.used_all
          rw [log_all] at h2; omega
        go_wp2_with (at_next; refine wpList_next_it rfl _ rfl rfl HI.out ?_ ?_)
        · intro hall
          have hall' : ∀ y ∈ K, y ∈ done2 := fun y hy => by
            have h1 := HG2.out y.p
            rw [if_pos (List.mem_map_of_mem hy)] at h1
            obtain ⟨e, he, hk⟩ := esPtr_mem h1
            have h2 := hall e (by simpa using he)
            obtain ⟨⟨⟨b0, o0, s0⟩, hk0, hkb⟩, -⟩ := hk
            obtain ⟨k', hk'⟩ := HE2.out.key e (by simpa using he)
            rw [hk'] at hk0 h2
            have ek : k' = y.p := by injection hk0 with e1; injection e1 with e1; injection e1 with e1 e2 e3; rw [e1]; exact hkb
            subst ek
            obtain ⟨z, hz, ez⟩ : ∃ z, z ∈ done2 ∧ z.ptr = .pointer (some ⟨y.p, 0, none⟩) := by simpa using h2
            have ez' : z.p = y.p := by unfold PB.ptr at ez; simpa using ez
            have := inj_of_nodup h.ps (HKs.out z (HD.out z hz)) (HKs.out y hy) ez'
            rw [← this]; exact hz
          have hKy : ∀ y ∈ K, y.b.at_ ≤ x.Y := fun y hy => by
            have := ((HK.out y).1 hy).p_of; simpa using this
          have hlive : (keptPB K x.yb).map PB.b = x.log.liveY roots := keptPB_map h.ok h.ps (q := x.log.isY) (fun _ _ => rfl) Hfr.out HK.out HKs.out fun y hy => List.mem_append_left _ hy
          have hN : bused (done2.map PB.b) = bused (x.log.liveY roots) := by
            rw [← hlive, ← keptPB_young h.ok h.ps HKs.out hKy HKn.out]
            exact bused_same (nodup_of_map hnd2) (nodup_of_map HKn.out) fun y => ⟨HD.out y, hall' y⟩
          rw [hN]
          rw [hN] at hb0 hb1
          have Hlive := Lib.hid hlive
          have hou : x.ou = bused x.log.ob := h.ok.ou
          have hh := h.ext HX.out
          have c5 : wr.cell? ⟨x.hp, 4 + 1, none⟩ = some (.int .i64 x.O) := (hh.cell 5).trans rfl
          have c6 : wr.cell? ⟨x.hp, 4 + 2, none⟩ = some (.int .i64 x.ou) := (hh.cell 6).trans rfl
          have hO0 := h.ok.O0; have hO1 := h.ok.O1; have hu0 := h.ok.ou0; have hu1 := h.ok.ou1
          clear hall hall' hKy hlive hN hnd2 HI HD
          obtain ⟨N, hN⟩ : ∃ N, N = bused (x.log.liveY roots) := ⟨_, rfl⟩
          rw [← hN] at hb0 hb1 ⊢
          have HN := Lib.hid hN
          clear hN
          by_cases hfit : x.O - x.ou < N
          · have Hpp2 : Hid (pp = (x.log, [], 2)) := Lib.hid (by
              rw [Hpp.out]; unfold LH.minor
              rw [if_neg (by rw [Hb.out]; simp), if_pos (by rw [← hou, ← HN.out]; exact hfit)])
            go_wp2_with (go_at_call 48; refine (gfree_raw x.hp 4 x.O x.ou _ c5 c6 hO0 hO1 hu0 (by omega)).mono ?_; rintro e w8 ⟨rfl, n8, rfl⟩)
            go_ret2
            rw [Hpp2.out]
            exact ⟨_, rfl, World.ownsRow_nil _ _ _ _, StepC.same h (HX.out.drewN n8)⟩
          · have Hfit := Lib.hid hfit
            go_wp2_with fail
            refine (gfree_raw x.hp 4 x.O x.ou _ c5 c6 hO0 hO1 hu0 (by omega)).mono ?_
            rintro e w8 ⟨rfl, n8, hw8⟩
            have HX8 : Hid (Ext w w8) := Lib.hid (by rw [hw8]; exact HX.out.drewN n8)
            have HKM8 : Hid (KMap w8 m K) := Lib.hid (by rw [hw8]; exact HKM.out.keep rfl)
            have Hh8 := Lib.hid (h.ext HX8.out)
            obtain ⟨ya, yc, hyv, hyr⟩ := rowP_of Hh8.out.yrow
            have c1 : w8.cell? ⟨x.hp, 1, none⟩ = some (.int .i64 x.Y) := (Hh8.out.cell 1).trans rfl
            have c3 : w8.cell? ⟨x.hp, 3, none⟩ = some (.slice ya x.yb.length yc) := by rw [← hyv]; exact (Hh8.out.cell 3).trans rfl
            have c0 : w8.cell? ⟨x.hp, 0, none⟩ = some (.int .i64 x.fy) := (Hh8.out.cell 0).trans rfl
            have c2 : w8.cell? ⟨x.hp, 2, none⟩ = some (.int .i64 x.yu) := (Hh8.out.cell 2).trans rfl
            have f0 := Hh8.out.blk.frozen 0
            have f1 := Hh8.out.blk.frozen 1
            have f2 := Hh8.out.blk.frozen 2
            have f3 := Hh8.out.blk.frozen 3
            have Hyv := Lib.hid hyv
            have Hyr := Lib.hid hyr
            clear hyv hyr HX HKM hh hw8 c5 c6
            go_wp2_with fail
            obtain ⟨V, hV⟩ : ∃ V, (((w8.setCell ⟨x.hp, 0, none⟩ (.int .i64 1)).setCell ⟨x.hp, 1, none⟩ (.int .i64 x.Y)).setCell ⟨x.hp, 2, none⟩ (.int .i64 0)).setCell ⟨x.hp, 3, none⟩ (.slice none 0 0) = V := ⟨_, rfl⟩
            rw [hV]
            have HH0 : Hid (Half w8 x V base (x.moving K 0 x.ov) (x.yb.drop 0)) := Lib.hid (by rw [PH.moving_zero, List.drop_zero]; exact Half.minor0 Hh8.out hV.symm)
            clear hV c0 c1 c2 c3 f0 f1 f2 f3
            have hyl : x.yb.length ≤ 100000 := by
              have h1 := bused_len (x.yb.map PB.b); rw [List.length_map, ← h.ok.yu] at h1; have := h.ok.yu1; have := h.ok.Y1; omega
            go_loopw [81] (fun i wr => ∃ (k : Nat) (ov : Value), k ≤ x.yb.length ∧ i = .int .i64 k ∧ Hid (Half w8 x wr base (x.moving K k ov) (x.yb.drop k))) (fun i wr => x.yb.length - (intOf i).toNat)
            case atStart => exact ⟨0, x.ov, Nat.zero_le _, rfl, HH0⟩
            case round =>
              clear HH0
              obtain ⟨k, ov, hk, rfl, HH⟩ := hrel
              by_cases hlt : k < x.yb.length
              · obtain ⟨y, hyk⟩ : ∃ y, x.yb[k]? = some y := ⟨_, List.getElem?_eq_getElem hlt⟩
                have hyy : y ∈ x.yb := List.mem_of_getElem? hyk
                have hym : y ∈ x.all := List.mem_append_left _ hyy
                have hdrop : x.yb.drop k = y :: x.yb.drop (k + 1) := by
                  rw [List.drop_eq_getElem_cons hlt]; rw [List.getElem?_eq_getElem hlt] at hyk; injection hyk with hyk; rw [hyk]
                rw [hdrop] at HH
                obtain ⟨g, hya, hcell⟩ := Hyr.out.get hyk
                have hown8 : x.yv.ownBlock = some g := by rw [Hyv.out, hya]; rfl
                have hgc : wr.cell? ⟨g, k, none⟩ = some (.pointer (some ⟨y.p, 0, none⟩)) := by
                  obtain ⟨cur, hgb⟩ := ownsRow_type Hh8.out.yrow hown8
                  refine (World.cell?_of_block (HH.out.kp.block g hgb.lt ?_)).trans hcell
                  rintro (e | e | e)
                  · exact (hgb.ne Hh8.out.blk (by decide)) e
                  · obtain ⟨z, hz, e⟩ := List.mem_map.1 e
                    exact (hgb.ne (Hh8.out.pbs z hz).st (by decide)) e.symm
                  · exact Hh8.out.rows g hown8 e.symm
                have hKMr : KMap wr m K := HKM8.out.keep (by
                  obtain ⟨es, ck, h1, _⟩ := HKM8.out.ex
                  exact (HH.out.map_keep Hh8.out h1).trans h1.symm)
                have hlk := KMap.lookup' (fun z hz => let ⟨c, hc⟩ := HH.out.lie z hz; ⟨c, _, hc⟩) hKMr HKs.out hym
                have Hyk := Lib.hid hyk
                have Hya := Lib.hid hya
                clear hKMr hcell hown8 hyk hdrop hya
                by_cases hin : y.p ∈ K.map PB.p
                · have hroom : (x.moving K k ov).ou + (y.b.ws.length + 1) ≤ (x.moving K k ov).O := by
                    have h1 := keptPB_le K x.yb (k + 1)
                    rw [keptPB_step Hyk.out, if_pos hin, List.map_append, bused_append, Hlive.out, ← HN.out] at h1
                    have h2 : bused ([y].map PB.b) = y.b.ws.length + 1 := by simp [bused]
                    show x.ou + bused ((keptPB K (x.yb.take k)).map PB.b) + (y.b.ws.length + 1) ≤ x.O
                    omega
                  have Hpush := Lib.hid (Half.push_old HH.out hroom)
                  rw [decide_eq_true hin] at hlk
                  have Hin := Lib.hid hin
                  clear hin hroom
                  rw [Hya.out]
                  go_wp2_with (go_at_call 60; refine Hpush.out.mono ?_; rintro e w9 ⟨rfl, ov', hH9, -⟩)
                  rw [PH.moving_step Hyk.out Hin.out] at hH9
                  exact ⟨⟨k + 1, ov', hlt, by simp, hH9⟩, by simp only [intOf]; omega⟩
                · rw [decide_eq_false hin] at hlk
                  have Hin := Lib.hid hin
                  clear hin
                  rw [Hya.out]
                  go_wp2
                  have hH9 := HH.out.skip
                  rw [← PH.moving_skip Hyk.out Hin.out] at hH9
                  exact ⟨⟨k + 1, ov, hlt, by simp, hH9⟩, by simp only [intOf]; omega⟩
              · have hkn : k = x.yb.length := by omega
                subst hkn
                rw [List.drop_length] at HH
                have hmm := run_makeMap (P := Try.prog) 79 wr
                have f9 : wr.frozen? ⟨x.hp, 9, none⟩ = false := HH.out.blk.frozen 9
                have f9' : (wr.alloc (.map #[] 0)).frozen? ⟨x.hp, 9, none⟩ = false := (HH.out.blk.alloc (.map #[] 0)).frozen 9
                have hrv9 : (wr.alloc (.map #[] 0)).cell? ⟨x.hp, 9, none⟩ = some x.rv := ((HH.out.blk.alloc (.map #[] 0)).cell 9).trans rfl
                go_wp2_with fail
                clear hmm f9 f9' hrv9
                obtain ⟨V, hVe⟩ : ∃ V, (wr.alloc (.map #[] 0)).setCell ⟨x.hp, 9, none⟩ (.map (some wr.heap.size)) = V := ⟨_, rfl⟩
                have hhp : x.hp < wr.heap.size := HH.out.blk.lt
                have hVr : V.heap[wr.heap.size]? = some (.map #[] 0) := by
                  rw [← hVe]
                  exact ((Keeps.setCell (S := (· = x.hp)) (Keeps.refl _ (wr.alloc (.map #[] 0))) (p := ⟨x.hp, 9, none⟩) (.inl rfl) _).block wr.heap.size (by simp) (by omega)).trans (World.alloc_heap_new _ _)
                obtain ⟨x1, hx1⟩ : ∃ x1 : PH, { x.moving K x.yb.length ov with rv := .map (some wr.heap.size), R := [] } = x1 := ⟨_, rfl⟩
                have hV : Half w8 x V base x1 [] := by rw [← hVe, ← hx1]; exact HH.out.setRv
                rw [hVe]
                have hx1a : x1.all = x.ob ++ shiftPB (x.Y + 1 + x.ou) (keptPB K x.yb) := by rw [← hx1]; simp [PH.all, PH.moving, PH.noYoung]
                have hav : x1.av = x.av := by rw [← hx1]; rfl
                have hrv : x1.rv = x.rv ∨ ∃ r, x1.rv = .map (some r) ∧ w8.heap.size ≤ r := .inr ⟨wr.heap.size, by rw [← hx1], HH.out.kp.size⟩
                have hf1 : mvTo ((x.ob ++ keptPB K x.yb).map PB.b) ((x.ob ++ shiftPB (x.Y + 1 + x.ou) (keptPB K x.yb)).map PB.b) = x.log.minorF roots := by
                  rw [List.map_append, List.map_append, shiftPB_map, Hlive.out, hou]; rfl
                have hmid := Mid.of Hh8.out hV hav hrv ⟨#[], 0, .inr ⟨wr.heap.size, by rw [← hx1], hVr⟩, IntEs.empty _, fun k => by rw [← hx1]; simp [esGet]⟩
                  (L0 := x.ob ++ keptPB K x.yb) (L1 := x.ob ++ shiftPB (x.Y + 1 + x.ou) (keptPB K x.yb)) ((Mv.refl _).append (Mv.shift _ _)) (fun y => by rw [hx1a])
                  (fun y hy => by
                    rcases List.mem_append.1 hy with hy | hy
                    · exact List.mem_append_right _ hy
                    · exact List.mem_append_left _ (mem_keptPB.1 hy).1)
                  (by
                    have hsub : (keptPB K x.yb ++ x.ob).Sublist x.all := List.Sublist.append_right List.filter_sublist _
                    have := h.ok.ats.sublist (hsub.map fun y => y.b.at_)
                    exact ((List.perm_append_comm (l₁ := x.ob) (l₂ := keptPB K x.yb)).map fun y => y.b.at_).nodup_iff.2 this)
                  (fun y hy u huy hu => minor_closed h.ok h.ps Hinv.out Hfr.out HK.out HKs.out hu (Hinv.out.ref y.b (by
                    rw [log_all]; refine List.mem_map_of_mem ?_
                    rcases List.mem_append.1 hy with hy | hy
                    · exact List.mem_append_right _ hy
                    · exact List.mem_append_left _ (mem_keptPB.1 hy).1) u huy) (.inr ⟨y, hy, huy⟩))
                obtain ⟨es8, ck8, hmid, href⟩ := hmid
                rw [hf1] at hmid href
                have hroots : ∀ u ∈ roots, refW u ≠ 0 → ∃ z ∈ x1.all, esGet es8.toList u.a = some z.ptr ∧ x.log.minorF roots u.a = z.b.at_ := fun u hu hn =>
                  href u hn (minor_closed h.ok h.ps Hinv.out Hfr.out HK.out HKs.out hn (by
                    have := Hb.out
                    rw [List.any_eq_false] at this
                    simpa using this u hu) (.inl hu))
                have hrV : RdW V v roots := (Hr.out.ext HX8.out).kept2 hV.kp fun hn k hk hS => Hd.out hn k hk hS.fp
                have Hset := Lib.hid (settle_any hmid hrV (by omega) hroots)
                have hx1hp : x1.hp = x.hp := by rw [← hx1]; rfl
                rw [hx1hp] at Hset
                have HV1 := Lib.hid hV; have Hav := Lib.hid hav; have Hrv := Lib.hid hrv
                have HVs : Hid (w.heap.size ≤ V.heap.size) := Lib.hid (Nat.le_trans HX8.out.size hV.kp.size)
                have Hlog : Hid (∀ m', (x1.moved (x.log.minorF roots) m').log = ⟨x.log.Y, x.log.O, [], (x.log.ob ++ shift (x.log.Y + 1 + bused x.log.ob) (x.log.liveY roots)).map (mvB (x.log.minorF roots)), []⟩) := Lib.hid fun m' => by
                  have e1 : (x1.moved (x.log.minorF roots) m').log = ⟨x.Y, x.O, [], (x1.ob.map PB.b).map (mvB (x.log.minorF roots)), []⟩ := by
                    rw [← hx1]; simp [PH.moved, PH.log, PH.moving, PH.noYoung, mvPB, mvB, Function.comp_def]
                  have e2 : x1.ob.map PB.b = x.log.ob ++ shift (x.log.Y + 1 + bused x.log.ob) (x.log.liveY roots) := by
                    rw [← hx1]; simp only [PH.moving, List.take_length, List.map_append, shiftPB_map]; rw [Hlive.out, hou]; rfl
                  rw [e1, e2]; rfl
                have Hpp2 : Hid (pp = (⟨x.log.Y, x.log.O, [], (x.log.ob ++ shift (x.log.Y + 1 + bused x.log.ob) (x.log.liveY roots)).map (mvB (x.log.minorF roots)), []⟩, roots.map (mvW (x.log.minorF roots)), 0)) := Lib.hid (by
                  rw [Hpp.out]; unfold LH.minor
                  rw [if_neg (by rw [Hb.out]; simp), if_neg (by rw [← hou, ← HN.out]; have := Hfit.out; show ¬ x.O - x.ou < N; omega)])
                clear hVe hVr hx1 hV hx1a hav hrv hf1 hmid href hroots hrV hx1hp HH
                refine Hset.out.mono ?_
                rintro e w9 ⟨v', m', rfl, hown9, hrep9, hk9, hm9⟩
                have Hown9 := Lib.hid hown9; have Hrep9 := Lib.hid hrep9; have Hk9 := Lib.hid hk9; have Hm9 := Lib.hid hm9
                clear hown9 hrep9 hk9 hm9
                go_wp2
                go_ret2
                rw [Hpp2.out]
                refine ⟨v', rfl, ?_, Half.step HX8.out HV1.out Hav.out Hrv.out Hrep9.out Hk9.out Hm9.out (Hlog.out m')⟩
                have := ownsRow_base Hown9.out HVs.out
                simpa using this
        · intro e w7 he hne hit hkp hlt hen
          obtain ⟨k, hk⟩ := HE2.out.key e he
          rw [hk] at hen hit hne
          have hkK : k ∈ K.map PB.p := by
            have h1 := esPtr_of_mem (es := es2.toList) (by simpa using he) hk
            rw [HG2.out] at h1
            by_cases hm : k ∈ K.map PB.p
            · exact hm
            · rw [if_neg hm] at h1; exact (h1 rfl).elim
          obtain ⟨y, hyK, rfl⟩ := List.mem_map.1 hkK
          rw [hk]
          have HX7 : Hid (Ext w w7) := Lib.hid (HX.out.trans' hkp fun i hi e => by have := Hwr2.out; omega)
          have HI7 : Hid (Iter w7 (.map (some m)) r2 es2 ck2 (done2.map PB.ptr ++ [.pointer (some ⟨y.p, 0, none⟩)])) := Lib.hid hit
          have Hlt : Hid (itLeft w7 r2 < itLeft wr r2) := Lib.hid hlt
          have HKM7 : Hid (KMap w7 m K) := Lib.hid (HKM.out.keep (by
            obtain ⟨es, ck, h1, _⟩ := HKM.out.ex
            refine hkp.block m (Array.getElem?_eq_some_iff.1 h1).1 ?_
            rintro rfl
            obtain ⟨m', since, seen, c0, h2, _⟩ := HI.out.it
            rw [h1] at h2; cases h2))
          have hpb := (h.ext HX7.out).pbs y (HKs.out y hyK)
          have k2 : w7.cell? ⟨y.p, 2, none⟩ = some (.slice (some ⟨y.arr, 0, none⟩) y.b.ws.length y.b.ws.length) := (hpb.st.cell 2).trans rfl
          have hyl : y.b.ws.length ≤ 100000 := h.ok.len (HKs.out y hyK)
          have HyK := Lib.hid hyK
          clear hkp hit hlt hne hpb HX HI HKM he hkK hyK
          go_wp2_with (go_at_call 61; refine (takes_raw y.p _ _ _ _ k2 (by omega)).mono ?_; rintro e w8 ⟨rfl, rfl⟩)
          refine ⟨⟨done2 ++ [y], ?_, ?_, HX7, HKM7, ?_⟩, Hlt.out⟩
          · rw [List.map_append]; exact HI7
          · rw [List.map_append, bused_append]; simp [bused]
          · intro z hz
            rcases List.mem_append.1 hz with hz | hz
            · exact HD.out z hz
            · simp at hz; subst hz; exact HyK.out
    · intro e w4 he hne hit hkp hlt hen
      obtain ⟨k, hk⟩ := Hre.out.key e he
      rw [hk] at hen hit hne
      have hkR : k ∈ x.R := by
        have h1 := esGet_of_mem (es := es.toList) (by simpa using he) hk
        rw [Hrg.out] at h1
        by_cases hm : k ∈ x.R
        · exact hm
        · rw [if_neg hm] at h1; exact (h1 rfl).elim
      obtain ⟨b, hbo, hbk⟩ := Hinv.out.rem k hkR
      obtain ⟨y, hyo, rfl⟩ := List.mem_map.1 hbo
      have hy : y ∈ x.all := List.mem_append_right _ hyo
      have hf : x.find k = some y := by rw [← hbk]; exact h.ok.find_mem hy
      rw [hk]
      have HX4 : Hid (Ext w w4) := Lib.hid (HX.out.trans' hkp fun i hi e => by have := Hwr.out; omega)
      have Ho4 : Hid (w4.ownsRow w.heap.size 33 6 u6 (roots ++ remOf x.log done).length (flatL (roots ++ remOf x.log done))) := Lib.hid (ownsRow_keeps Ho.out fun k hk => hkp.block k (by obtain ⟨cur, hc⟩ := ownsRow_type Ho.out hk; exact hc.lt) fun e => HI.out.own_ne Ho.out (by rw [hk, e]))
      have HI4 : Hid (Iter w4 x.rv r es ck (done.map (Value.int .i64) ++ [.int .i64 k])) := Lib.hid hit
      have Hlt : Hid (itLeft w4 r < itLeft wr r) := Lib.hid hlt
      have HD4 : Hid (∀ j ∈ done ++ [k], j ∈ x.R) := Lib.hid fun j hj => by
        rcases List.mem_append.1 hj with hj | hj
        · exact HD.out j hj
        · simp at hj; subst hj; exact hkR
      have hnd : (done ++ [k]).Nodup := by
        have := hit.nd
        rw [show done.map (Value.int .i64) ++ [Value.int .i64 k] = (done ++ [k]).map (Value.int .i64) from by simp] at this
        exact nodup_of_map this
      have hh4 := h.ext HX4.out
      have hpb := hh4.pbs y hy
      have k8 : w4.cell? ⟨x.hp, 8, none⟩ = some x.av := (hh4.cell 8).trans rfl
      have hlk := run_amap hh4 k
      rw [hf] at hlk
      unfold ptrO PB.ptr at hlk
      simp only [] at hlk
      have k2 : w4.cell? ⟨y.p, 2, none⟩ = some (.slice (some ⟨y.arr, 0, none⟩) y.b.ws.length y.b.ws.length) := (hpb.st.cell 2).trans rfl
      have Hrd := Lib.hid (rdW_of_pb hpb)
      have Hyl : Hid (y.b.ws.length ≤ 100000) := Lib.hid (h.ok.len hy)
      have hlb : x.log.find k = some y.b := by rw [log_find, hf]; rfl
      have Hrem : Hid (remOf x.log (done ++ [k]) = remOf x.log done ++ y.b.ws) := Lib.hid (by rw [remOf_append, remOf_one _ hlb])
      have Hlen : Hid ((roots ++ remOf x.log done).length ≤ 1048576 + 200000) := Lib.hid (by
        have h1 := remOf_len (h := x.log) (List.nodup_append.1 hnd).1 (fun j hj => by
          obtain ⟨b, hb, e⟩ := Hinv.out.rem j (HD.out j hj); exact ⟨b, List.mem_append_right _ hb, e⟩) h.ok.log_ats
        have h2 := h.ok.used_all
        rw [List.length_append]; omega)
      have hx4s : w.heap.size ≤ w4.heap.size := HX4.out.size
      clear hkp hit hlt hne hh4 hpb hnd hlb hf HX HI Ho HD hbk he hkR
      obtain ⟨i0, hi, hz0, hz1, hz2⟩ := info_parts info_wordC
      go_wp2_with (at_builtin; refine wpList_append_fresh rfl _ _ 23 rfl w.heap.size 33 i0 _ 6 56 Try.underlying23 hi hz0 hz1 hz2 rfl (by decide) _ (roots ++ remOf x.log done).length (flatL (roots ++ remOf x.log done)) rfl Ho4.out ⟨y.arr, 0, none⟩ y.b.ws.length y.b.ws.length (flatL y.b.ws) rfl (flatL_length y.b.ws) ?c1 ?c2 ?c3 ?c4 ?c5 ?_)
      case c1 =>
        obtain ⟨a, c, e, -, hr⟩ := Hrd.out
        injection e with e1 e2 e3
        exact hr _ e1.symm
      case c2 => exact flatL_one _
      case c3 => have := Hyl.out; have := Hlen.out; unfold maxLen; omega
      case c4 => have := Hyl.out; have := Hlen.out; omega
      case c5 => exact hx4s
      intro v' w5 hown hgrow hnil hfresh
      have HX5 : Hid (Ext w w5) := Lib.hid (HX4.out.grown hgrow fun k e => .inr (Ho4.out.lt k e).1)
      have hIk := HI4.out.keep (w' := w5) (hgrow.block r (by obtain ⟨m, since, seen, c0, h1, _⟩ := HI4.out.it; exact (Array.getElem?_eq_some_iff.1 h1).1) (fun e => HI4.out.own_ne Ho4.out e.symm))
        (fun m hm => by have hmw := h.fp_lt m (.inr (.inr (.inr (.inr (.inl hm))))); exact (Ext.heap HX5.out m hmw).trans (Ext.heap HX4.out m hmw).symm)
      have Hown := Lib.hid hown
      have HI5 := Lib.hid hIk.1
      have Hlt5 : Hid (itLeft w5 r < itLeft wr r) := Lib.hid (by rw [hIk.2]; exact Hlt.out)
      clear hown hgrow hnil hfresh hIk
      go_wp2
      refine ⟨⟨done ++ [k], ?_, HX5, ?_, HD4⟩, Hlt5.out⟩
      · have := HI5.out; rw [List.map_append]; exact this
      · have := Hown.out
        rw [Hrem.out, ← List.append_assoc, flatL_append]; refine Lib.hid ?_; simpa only [List.length_append] using this
theorem Minor_any {w : World} {base : Nat} {x : PH} (h : HRep w base x) (hinv : LInv x.log) {v : Value} {roots : List Wd} (hr : RdW w v roots) (hd : roots ≠ [] → ∀ k, v.ownBlock = some k → ¬ x.fp k) (hl : roots.length ≤ 1048576) :
    Calls Try.prog 35 #[.pointer (some ⟨x.hp, 0, none⟩), v] w fun e w' => ∃ v', e = .returned (.tuple #[v', .int .i64 (x.log.minor roots).2.2]) ∧ w'.ownsRow w.heap.size 33 6 v' (x.log.minor roots).2.1.length (flatL (x.log.minor roots).2.1) ∧ StepC w base x (x.log.minor roots).1 w' := by
  cases hb : roots.any x.log.bad with
  | true =>
    refine (Minor_bad h hr hl hb).mono ?_
    rintro e w' ⟨rfl, hx⟩
    have : x.log.minor roots = (x.log, [], 1) := by unfold LH.minor; rw [if_pos hb]
    rw [this]
    exact ⟨_, rfl, World.ownsRow_nil _ _ _ _, StepC.same h hx⟩
  | false => exact Minor_good h hinv hr hd hl hb
end Go.Proofs.Ytikigppfnhilhaa
