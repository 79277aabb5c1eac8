/- has; HeapRemembers: the walk. The reference's heap in memory; used, at, into, young. -/
import Derived.Test.YtikigppfnhilhaaGPD30
import Derived.Test.YtikigppfnhilhaaGPD32
/- has; HeapRemembers: the walk. -/
namespace Go.Proofs.Ytikigppfnhilhaa
open Go.RowKit Go.Instr
set_option linter.unusedVariables false
set_option linter.unusedSimpArgs false
attribute [local go_sem] Oper.semAt_some

/-- An own row of ints, read. -/
theorem ownI_getR {w : World} {base : Nat} {v : Value} {zs : List Int} (h : w.ownsRow base 3 1 v zs.length (zs.map (Value.int .i64))) {i : Nat} {a : Int} (ha : zs[i]? = some a) : ∃ g c, v = .slice (some ⟨g, 0, none⟩) zs.length c ∧ w.cell? ⟨g, i, none⟩ = some (.int .i64 a) := by
  rcases h.2 with ⟨hv, hl⟩ | ⟨g, c, cur, hv, _⟩
  · rw [List.length_eq_zero_iff.1 hl] at ha; simp at ha
  · refine ⟨g, c, hv, ?_⟩
    have := h.cells (g := g) (by rw [hv]; rfl) i (.int .i64 a) (by rw [List.getElem?_map, ha]; rfl)
    rw [show (⟨g, 0, none⟩ : Addr).add i = ⟨g, i, none⟩ from by unfold Addr.add; split <;> simp_all] at this
    exact this
theorem Heap.youngOf {W0 w : World} {hp : Nat} {y o : Int} {x : PH} (h : Heap W0 w hp y o x) {b : Bk} (hb : b ∈ x.log.all) :
    Calls Try.prog 27 #[.pointer (some ⟨hp, 0, none⟩), .int .i64 b.at_] w fun e w' => e = .returned (.tuple #[.bool (decide (b.at_ ≤ y)), .int .i64 0]) ∧ Ext w w' := by
  rw [← h.hp_]
  rw [log_all] at hb
  obtain ⟨z, hz, rfl⟩ := List.mem_map.1 hb
  have hf := h.rep.ok.find_mem hz
  refine (Young_any h.rep z.b.at_).mono ?_
  rintro e w' ⟨rfl, n, rfl⟩
  refine ⟨?_, (Ext.refl _).drewN n⟩
  rw [hf, ← h.Y]; rfl
theorem Heap.remembered {W0 w : World} {hp : Nat} {y o : Int} {x : PH} (h : Heap W0 w hp y o x) : Calls Try.prog 26 #[.pointer (some ⟨hp, 0, none⟩)] w (RemR w x) := by
  rw [← h.hp_]; exact Remembered_any h.rep h.inv

def HasR (w : World) (zs : List Int) (n : Int) (e : Ending) (w' : World) : Prop := e = .returned (.bool (decide (n ∈ zs))) ∧ Ext w w'
set_option maxRecDepth 100000 in
set_option maxHeartbeats 4000000 in
theorem has_any {w : World} {base : Nat} {a : Option Addr} {c : Nat} {zs : List Int} (h : w.ownsRow base 3 1 (.slice a zs.length c) zs.length (zs.map (Value.int .i64))) (hl : zs.length ≤ 1000000) (n : Int) :
    Calls Try.prog 28 #[.slice a zs.length c, .int .i64 n] w (HasR w zs n) := by
  have HR := Lib.hid h
  generalize hM : HasR w zs n = M
  have HM := Lib.hid hM
  clear h hM
  go_enter Try.func28, Try.ntmps28
  go_wp2_with fail
  go_loopw [5] (fun i wr => ∃ k : Nat, k ≤ zs.length ∧ i = .int .i64 k ∧ Hid (Ext w wr) ∧ Hid (n ∉ zs.take k)) (fun i wr => zs.length - (intOf i).toNat)
  case atStart => exact ⟨0, Nat.zero_le _, rfl, Lib.hid (Ext.refl w), Lib.hid (by simp)⟩
  case round =>
    obtain ⟨k, hk, rfl, HX, HT⟩ := hrel
    by_cases hlt : k < zs.length
    · obtain ⟨z, hz⟩ : ∃ z, zs[k]? = some z := ⟨_, List.getElem?_eq_getElem hlt⟩
      obtain ⟨g, c', e, d0⟩ := ownI_getR (own_ext HR.out HX.out) hz
      injection e with e e2 e3; subst e; clear e2 e3
      have Hz := Lib.hid hz
      clear hz
      by_cases he : z = n
      · have Hm : Hid (n ∈ zs) := Lib.hid (by rw [← he]; exact List.mem_of_getElem? Hz.out)
        subst he
        go_wp2_with fail
        rw [← HM.out]
        exact ⟨by rw [decide_eq_true Hm.out]; rfl, HX.out⟩
      · have he' : (z == n) = false := by simpa using he
        have He := Lib.hid he
        clear he
        go_wp2_with fail
        exact ⟨⟨k + 1, by omega, by simp, HX, Lib.hid (by
          rw [List.take_add_one, Hz.out]
          intro hm
          rcases List.mem_append.1 hm with hm | hm
          · exact HT.out hm
          · simp at hm; exact He.out hm.symm)⟩, by simp only [intOf]; omega⟩
    · have hkn : k = zs.length := by omega
      subst hkn
      have hT := HT.out
      rw [List.take_length] at hT
      have HT2 := Lib.hid hT
      clear hT
      go_wp2_with fail
      rw [← HM.out]
      exact ⟨by rw [decide_eq_false HT2.out]; rfl, HX.out⟩

def TrueM (w : World) (e : Ending) (w' : World) : Prop := e = .returned (.bool true) ∧ Ext w w'
set_option maxRecDepth 100000 in
set_option maxHeartbeats 8000000 in
theorem HeapRemembers_any (young old : Int) {lv : Value} {l : List Ac} {w : World} (hl : RdA w lv l) (hn : l.length ≤ 1048576) (hroots : ∀ x ∈ l, x.roots.length ≤ 1048576) :
    Calls Try.prog 7 #[.int .i64 young, .int .i64 old, lv] w (TrueM w) := by
  have HL := Lib.hid hl; have Hroots := Lib.hid hroots
  generalize hM : TrueM w = M
  have HM := Lib.hid hM
  clear hl hroots hM
  go_enter Try.func7, Try.ntmps7
  go_wp2_with fail
  refine (awake_any _).mono ?_
  rintro e w2 ⟨rfl, hx2⟩
  have HX2 := Lib.hid hx2
  clear hx2
  have HP := Lib.hid (play_any young old (HL.out.ext HX2.out) hn Hroots.out)
  go_wp2_with fail
  refine HP.out.mono ?_
  rintro e w3 (⟨rfl, hx3⟩ | ⟨hp, x, rfl, h3, hy0, hy3, ho0, ho3⟩)
  · go_wp2
    rw [← HM.out]
    exact ⟨rfl, HX2.out.trans hx3⟩
  · have H3 := Lib.hid (h3.rebase HX2.out)
    clear h3 HP
    have HRe := Lib.hid H3.out.remembered
    go_wp2_with fail
    refine HRe.out.mono ?_
    rintro e w4 ⟨mv, rs, rfl, hrow, hlt4, hmem4, hlen4, hx4⟩
    obtain ⟨ma, mc, rfl⟩ := own_slice hrow
    have H4 := Lib.hid (H3.out.later hx4)
    have HR4 := Lib.hid hrow
    have Hlt := Lib.hid hlt4; have Hmem := Lib.hid hmem4
    clear hrow hlt4 hmem4 hx4 HRe H3
    have HCb := Lib.hid H4.out.blocks
    go_wp2_with fail
    refine HCb.out.mono ?_
    rintro e w5 ⟨ba, bc, vs, rfl, hob, hx5⟩
    have H5 := Lib.hid (H4.out.later hx5)
    have HR5 := Lib.hid (own_ext HR4.out hx5)
    have HB5 := Lib.hid (rdB_of_own hob)
    have Hok := Lib.hid H5.out.rep.ok.lok
    have Hinv := Lib.hid H5.out.inv
    have HY : Hid (x.log.Y = young) := Lib.hid H5.out.Y
    have hall := H5.out.all_len
    have Hwl : Hid (∀ b ∈ x.log.all, b.ws.length ≤ 1000000) := Lib.hid fun b hb => by
      rw [log_all] at hb
      obtain ⟨z, hz, rfl⟩ := List.mem_map.1 hb
      have := H5.out.rep.ok.len hz; omega
    clear hob hx5 HCb H4 HR4
    go_wp2_with fail
    go_loopw [12] (fun i wr => ∃ k : Nat, k ≤ rs.length ∧ i = .int .i64 k ∧ Hid (Ext w5 wr)) (fun i wr => rs.length - (intOf i).toNat)
    case atStart => exact ⟨0, Nat.zero_le _, rfl, Lib.hid (Ext.refl w5)⟩
    case round =>
    obtain ⟨k, hk, rfl, HX⟩ := hrel
    by_cases hlt : k < rs.length
    · obtain ⟨z, hz⟩ : ∃ z, rs[k]? = some z := ⟨_, List.getElem?_eq_getElem hlt⟩
      have HRr := Lib.hid (own_ext HR5.out HX.out)
      obtain ⟨g, c', e, d0⟩ := ownI_getR HRr.out hz
      injection e with e e2 e3; subst e; clear e2 e3
      have hzR : z ∈ x.log.R := (Hmem.out z).1 (List.mem_of_getElem? hz)
      obtain ⟨b, hb, hbz⟩ := Hinv.out.rem z hzR
      subst hbz
      have hgt : ¬ b.at_ ≤ young := by have := Hok.out.do_.mem hb; rw [HY.out] at this; omega
      have HYo := Lib.hid ((H5.out.later HX.out).youngOf (List.mem_append_right _ hb))
      rw [decide_eq_false hgt] at HYo
      have Hz := Lib.hid hz
      clear hz hzR hb hgt
      go_wp2_with fail
      refine HYo.out.mono ?_
      rintro e w6 ⟨rfl, hx6⟩
      have d1 := Ext.cell hx6 d0
      have HX6 := Lib.hid (HX.out.trans hx6)
      have hnext : Hid (∀ W, Ext w6 W → ∃ K : Nat, K ≤ rs.length ∧ Value.int .i64 (k + 1) = .int .i64 (K : Nat) ∧ Hid (Ext w5 W)) := Lib.hid fun W hW => ⟨k + 1, hlt, by simp, Lib.hid (HX6.out.trans hW)⟩
      have hmeas : Hid (rs.length - (intOf (.int .i64 ((k : Int) + 1))).toNat < rs.length - (intOf (.int .i64 (k : Int))).toNat) := Lib.hid (by simp only [intOf]; omega)
      by_cases hk0 : k = 0
      · subst hk0
        clear hx6 d0
        go_wp2_with fail
        go_big_region
        go_wp2_with fail
        exact ⟨hnext.out _ (Ext.refl _).drew, hmeas.out⟩
      · obtain ⟨j, hj⟩ : ∃ j : Nat, (k : Int) - 1 = (j : Int) := ⟨k - 1, by omega⟩
        have hjl : j < rs.length := by omega
        obtain ⟨z', hz'⟩ : ∃ z', rs[j]? = some z' := ⟨_, List.getElem?_eq_getElem hjl⟩
        obtain ⟨g', c'', e, e0⟩ := ownI_getR (own_ext HRr.out hx6) hz'
        injection e with e e2 e3; injection e with e; injection e with e e4 e5; subst e; clear e2 e3 e4 e5
        have hlz : ¬ b.at_ ≤ z' := by
          obtain ⟨h1, h2⟩ := List.getElem?_eq_some_iff.1 hz'
          obtain ⟨h3, h4⟩ := List.getElem?_eq_some_iff.1 Hz.out
          have := List.pairwise_iff_getElem.1 Hlt.out j k h1 h3 (by omega)
          omega
        have hkp : 0 < k := by omega
        clear hx6 d0 hk0 hz'
        go_wp2_with fail
        have hlz : ¬ b.at_ ≤ z' := by omega
        go_big_region
        go_wp2_with fail
        exact ⟨hnext.out _ (Ext.refl _).drew, hmeas.out⟩
    · have HX6 := Lib.hid HX.out
      have hk' : k = rs.length := by omega
      obtain ⟨AL, hAL⟩ : ∃ AL, x.log.all = AL := ⟨_, rfl⟩
      rw [hAL] at HB5 hall ⊢
      have HAL := Lib.hid hAL
      clear HX hAL
      go_wp2_with fail
      clear hlt hk hk'
      go_loopw [15] (fun i wr => ∃ k : Nat, k ≤ AL.length ∧ i = .int .i64 k ∧ Hid (Ext w5 wr)) (fun i wr => AL.length - (intOf i).toNat)
      case atStart => exact ⟨0, Nat.zero_le _, rfl, HX6⟩
      case round =>
      clear HX6
      obtain ⟨k, hk, rfl, HX⟩ := hrel
      by_cases hlt : k < AL.length
      · obtain ⟨b, hb⟩ : ∃ b, AL[k]? = some b := ⟨_, List.getElem?_eq_getElem hlt⟩
        have hbm : b ∈ x.log.all := by rw [HAL.out]; exact List.mem_of_getElem? hb
        obtain ⟨ad, rfl⟩ := HB5.out.some (by rintro e; rw [e] at hb; simp at hb)
        obtain ⟨A, hA⟩ : ∃ A, ad.add (k * 3) = A := ⟨_, rfl⟩
        obtain ⟨su, a0, a1, a2, hsu⟩ := (HB5.out.ext HX.out).at_ hb hA
        have HS := Lib.hid hsu
        obtain ⟨sa, sc, rfl, -⟩ := hsu
        have HYo := Lib.hid ((H5.out.later HX.out).youngOf hbm)
        have Hbm := Lib.hid hbm
        have hwl := Hwl.out b hbm
        have A2 := Lib.hid a2
        clear hb hbm a1 a2
        go_wp2_with fail
        refine HYo.out.mono ?_
        rintro e w6 ⟨rfl, hx6⟩
        have HX6 := Lib.hid (HX.out.trans hx6)
        have HS6 : Hid (RdW w6 (.slice sa b.ws.length sc) b.ws) := Lib.hid (HS.out.ext hx6)
        have HA0 := Lib.hid (Ext.cell hx6 a0)
        have HA2 := Lib.hid (Ext.cell hx6 A2.out)
        have hnext : Hid (∀ W, Ext w6 W → ∃ K : Nat, K ≤ AL.length ∧ Value.int .i64 (k + 1) = .int .i64 (K : Nat) ∧ Hid (Ext w5 W)) := Lib.hid fun W hW => ⟨k + 1, hlt, by simp, Lib.hid (HX6.out.trans hW)⟩
        have hmeas : Hid (AL.length - (intOf (.int .i64 ((k : Int) + 1))).toNat < AL.length - (intOf (.int .i64 (k : Int))).toNat) := Lib.hid (by simp only [intOf]; omega)
        clear hx6 a0 A2 HS HYo HX
        by_cases hy : b.at_ ≤ young
        · have a0 := HA0.out; have a2 := HA2.out
          rw [decide_eq_true hy]
          clear hy
          go_wp2_with fail
          go_loopw [18] (fun i wr => i = .int .i64 0 ∧ wr = w6) (fun i wr => 0)
          case atStart => exact ⟨rfl, rfl⟩
          case round =>
          obtain ⟨rfl, rfl⟩ := hrel
          go_wp2_with fail
          all_goals exact ⟨hnext.out _ (Ext.refl _), hmeas.out⟩
        · rw [decide_eq_false hy]
          have Hy := Lib.hid hy
          clear hy
          go_wp2_with fail
          go_loopw [18] (fun i wr => ∃ j : Nat, j ≤ b.ws.length ∧ i = .int .i64 j ∧ Hid (Ext w6 wr)) (fun i wr => b.ws.length - (intOf i).toNat)
          case atStart => exact ⟨0, Nat.zero_le _, rfl, Lib.hid (Ext.refl w6)⟩
          case round =>
          obtain ⟨j, hj, rfl, HX7⟩ := hrel
          have a0 := Ext.cell HX7.out HA0.out
          have a2 := Ext.cell HX7.out HA2.out
          by_cases hjl : j < b.ws.length
          · obtain ⟨u, hu⟩ : ∃ u, b.ws[j]? = some u := ⟨_, List.getElem?_eq_getElem hjl⟩
            have hum : u ∈ b.ws := List.mem_of_getElem? hu
            obtain ⟨sd, rfl⟩ := HS6.out.some (by rintro e; rw [e] at hu; simp at hu)
            obtain ⟨U, hU⟩ : ∃ U, sd.add (j * 6) = U := ⟨_, rfl⟩
            obtain ⟨c0, c1, c2, c3, c4, c5⟩ := (HS6.out.ext HX7.out).six hu hU
            have hin : Hid (∀ W, Ext wr W → ∃ J : Nat, J ≤ b.ws.length ∧ Value.int .i64 (j + 1) = .int .i64 (J : Nat) ∧ Hid (Ext w6 W)) := Lib.hid fun W hW => ⟨j + 1, hjl, by simp, Lib.hid (HX7.out.trans hW)⟩
            have hme : Hid (b.ws.length - (intOf (.int .i64 ((j : Int) + 1))).toNat < b.ws.length - (intOf (.int .i64 (j : Int))).toNat) := Lib.hid (by simp only [intOf]; omega)
            have Hum := Lib.hid hum
            clear hum hu
            by_cases ht : u.tag = 1
            · have ht' : (u.tag != 1) = false := by simpa using ht
              by_cases hz : u.a = 0
              · have hz' : (u.a == 0) = true := by simpa using hz
                clear ht hz
                go_wp2_with fail
                exact ⟨hin.out _ ((Ext.refl _).alloc _), hme.out⟩
              · have hz' : (u.a == 0) = false := by simpa using hz
                have hr : refW u = u.a := by unfold refW; rw [if_pos ht]
                obtain ⟨t, htm, hta⟩ := bad_iff.1 (Hinv.out.ref b Hbm.out u Hum.out) (by rw [hr]; exact hz)
                rw [hr] at hta
                have hto : t.at_ ≤ young → b.at_ ∈ rs := fun hle => by
                  have hbo : b ∈ x.log.ob := by
                    rcases List.mem_append.1 Hbm.out with hb | hb
                    · have := Hok.out.dy.mem hb; have := Hok.out.uy; rw [HY.out] at this; have := Hy.out; omega
                    · exact hb
                  refine (Hmem.out _).2 (Hinv.out.mem b hbo u Hum.out (by rw [hr]; exact hz) ?_)
                  rw [hr, HY.out, ← hta]; exact hle
                have Hto := Lib.hid hto
                have HYt : Hid (∀ W, Ext wr W → Calls Try.prog 27 #[.pointer (some ⟨hp, 0, none⟩), .int .i64 u.a] W fun e w' => e = .returned (.tuple #[.bool (decide (t.at_ ≤ young)), .int .i64 0]) ∧ Ext W w') := Lib.hid fun W hW => by
                  rw [← hta]; exact (H5.out.later (((HX6.out.trans HX7.out).trans hW))).youngOf htm
                clear ht hz hr htm hta hto
                go_wp2_with fail
                obtain ⟨W7, hW7⟩ : ∃ W7, wr.alloc (.cells #[.int .i64 u.tag, .int .i64 u.a, .int .i64 u.b, .string u.text, .int .i64 u.man, .int .i64 u.exp] 33) = W7 := ⟨_, rfl⟩
                have hx7 : Ext wr W7 := by rw [← hW7]; exact (Ext.refl _).alloc _
                rw [hW7]
                have HX8 := Lib.hid hx7
                clear hW7 hx7 c0 c1 c2 c3 c4 c5 a0 a2
                refine (HYt.out W7 HX8.out).mono ?_
                rintro e W9 ⟨rfl, hx9⟩
                have HX9 := Lib.hid (HX8.out.trans hx9)
                have a0 := Ext.cell (HX7.out.trans HX9.out) HA0.out
                clear hx9 HX8 HYt
                by_cases hle : t.at_ ≤ young
                · have Hbr := Lib.hid (Hto.out hle)
                  rw [decide_eq_true hle]
                  have HRw := Lib.hid (own_ext HR5.out ((HX6.out.trans HX7.out).trans HX9.out))
                  clear hle Hto
                  go_wp2_with fail
                  refine (has_any HRw.out hlen4 b.at_).mono ?_
                  rintro e W10 ⟨rfl, hx10⟩
                  rw [decide_eq_true Hbr.out]
                  go_wp2_with fail
                  exact ⟨hin.out _ (HX9.out.trans hx10), hme.out⟩
                · rw [decide_eq_false hle]
                  clear hle Hto
                  go_wp2_with fail
                  exact ⟨hin.out _ HX9.out, hme.out⟩
            · have ht' : (u.tag != 1) = true := by simpa using ht
              clear ht
              go_wp2_with fail
              exact ⟨hin.out _ ((Ext.refl _).alloc _), hme.out⟩
          · have hjn : j = b.ws.length := by omega
            subst hjn
            go_wp2_with fail
            exact ⟨hnext.out _ HX7.out, hmeas.out⟩
      · have hkn : k = AL.length := by omega
        subst hkn
        go_wp2_with fail
        rw [← HM.out]
        exact ⟨rfl, H5.out.ext.trans HX.out⟩
end Go.Proofs.Ytikigppfnhilhaa
/- The reference's heap in memory; used, at, into, young. -/
namespace Go.Proofs.Ytikigppfnhilhaa
open Go.RowKit Go.Instr
set_option linter.unusedVariables false
set_option linter.unusedSimpArgs false
attribute [local go_sem] Oper.semAt_some

/-- A block of the reference's heap: where its words lie. -/
structure RB where
  arr : Nat
  b : Bk
def RB.sl (y : RB) : Value := .slice (some ⟨y.arr, 0, none⟩) y.b.ws.length y.b.ws.length
/-- A row of such blocks. -/
def rowR (w : World) (base : Nat) (v : Value) (l : List RB) : Prop := w.ownsRow base 49 3 v l.length (bksCells (l.map RB.b) (l.map RB.sl))
/-- The words of such blocks. -/
def wosR (w : World) (l : List RB) : Prop := ∀ y ∈ l, Blk w y.arr (flat y.b.ws) 33

/-- The reference's heap in memory. -/
structure RH where
  rp : Nat
  Y : Int
  O : Int
  ya : Value
  oa : Value
  ma : Value
  yb : List RB
  ob : List RB
  M : List Int
def RH.cells (r : RH) : Array Value := #[.int .i64 r.Y, .int .i64 r.O, r.ya, r.oa, r.ma]
def RH.all (r : RH) : List RB := r.yb ++ r.ob
def RH.log (r : RH) : LH := ⟨r.Y, r.O, r.yb.map RB.b, r.ob.map RB.b, r.M⟩
def RH.fp (r : RH) (k : Nat) : Prop := k = r.rp ∨ some k = r.ya.ownBlock ∨ some k = r.oa.ownBlock ∨ some k = r.ma.ownBlock ∨ k ∈ r.all.map RB.arr
theorem RH.log_all (r : RH) : r.log.all = r.all.map RB.b := by simp [LH.all, RH.log, RH.all]

structure RRep (w : World) (base : Nat) (r : RH) : Prop where
  blk : Blk w r.rp r.cells 69
  yrow : rowR w base r.ya r.yb
  orow : rowR w base r.oa r.ob
  mrow : w.ownsRow base 3 1 r.ma r.M.length (r.M.map (Value.int .i64))
  rows : ∀ k, r.ya.ownBlock = some k → r.oa.ownBlock ≠ some k
  wo : wosR w r.all
  arrs : (r.all.map RB.arr).Nodup
  base_ : ∀ k, r.fp k → base ≤ k
  sorted : r.M.Pairwise (· < ·)
  msub : ∀ k ∈ r.M, k ∈ (r.ob.map RB.b).map Bk.at_
  ok : LOk r.log
  Y1 : r.Y ≤ 1000
  O1 : r.O ≤ 1000

theorem rdW_of_blk {w : World} {arr : Nat} {ws : List Wd} (h : Blk w arr (flat ws) 33) (c : Nat) : RdW w (.slice (some ⟨arr, 0, none⟩) ws.length c) ws :=
  ⟨_, _, rfl, fun h => (by cases h), fun ad had j u hu => by
    injection had with had; subst had
    have : (⟨arr, 0, none⟩ : Addr).add j = ⟨arr, j, none⟩ := by unfold Addr.add; split <;> simp_all
    rw [this, h.cell]; simpa [flat] using hu⟩
theorem rdB_of_rowR {w : World} {base : Nat} {v : Value} {l : List RB} (h : rowR w base v l) (hw : wosR w l) : RdB w v (l.map RB.b) := by
  have hc := fun g hg => h.cells (g := g) hg
  rcases h.2 with ⟨rfl, hl⟩ | ⟨g, cap, cur, rfl, _⟩
  · have : l = [] := List.eq_nil_of_length_eq_zero hl
    subst this
    exact ⟨none, 0, rfl, fun _ => rfl, fun ad had => by cases had⟩
  · refine ⟨some ⟨g, 0, none⟩, cap, by simp, fun h => (by cases h), fun ad had i b hb => ?_⟩
    injection had with had; subst had
    rw [List.getElem?_map] at hb
    obtain ⟨y, hy, rfl⟩ := Option.map_eq_some_iff.1 hb
    have hbs : (l.map RB.b)[i]? = some y.b := by rw [List.getElem?_map, hy]; rfl
    have hu : (l.map RB.sl)[i]? = some y.sl := by rw [List.getElem?_map, hy]; rfl
    have hg := fun j hj => bksCells_get _ _ i y.b _ hbs hu j hj
    refine ⟨y.sl, ?_, ?_, ?_, rdW_of_blk (hw y (List.mem_of_getElem? hy)) _⟩
    · exact hc g rfl _ _ ((hg 0 (by omega)).trans rfl)
    · exact hc g rfl _ _ ((hg 1 (by omega)).trans rfl)
    · exact hc g rfl _ _ ((hg 2 (by omega)).trans rfl)
theorem rowR.slice {w : World} {base : Nat} {v : Value} {l : List RB} (h : rowR w base v l) : ∃ a c, v = .slice a l.length c := own_slice h
theorem RRep.wy {w : World} {base : Nat} {r : RH} (h : RRep w base r) : wosR w r.yb := fun y hy => h.wo y (List.mem_append_left _ hy)
theorem RRep.wO {w : World} {base : Nat} {r : RH} (h : RRep w base r) : wosR w r.ob := fun y hy => h.wo y (List.mem_append_right _ hy)
theorem RRep.rdy {w : World} {base : Nat} {r : RH} (h : RRep w base r) : RdB w r.ya r.log.yb := rdB_of_rowR h.yrow h.wy
theorem RRep.rdo {w : World} {base : Nat} {r : RH} (h : RRep w base r) : RdB w r.oa r.log.ob := rdB_of_rowR h.orow h.wO
theorem RRep.fp_lt {w : World} {base : Nat} {r : RH} (h : RRep w base r) (k : Nat) (hk : r.fp k) : k < w.heap.size := by
  rcases hk with rfl | hk | hk | hk | hk
  · exact h.blk.lt
  · exact (h.yrow.lt k hk.symm).2
  · exact (h.orow.lt k hk.symm).2
  · exact (h.mrow.lt k hk.symm).2
  · obtain ⟨y, hy, rfl⟩ := List.mem_map.1 hk; exact (h.wo y hy).lt
theorem RRep.keeps {w w' : World} {base : Nat} {r : RH} (h : RRep w base r) (hk : ∀ k, r.fp k → w'.heap[k]? = w.heap[k]?) : RRep w' base r :=
  { h with
    blk := (hk _ (.inl rfl)).trans h.blk
    yrow := ownsRow_keeps h.yrow fun k e => hk k (.inr (.inl e.symm))
    orow := ownsRow_keeps h.orow fun k e => hk k (.inr (.inr (.inl e.symm)))
    mrow := ownsRow_keeps h.mrow fun k e => hk k (.inr (.inr (.inr (.inl e.symm))))
    wo := fun y hy => (hk _ (.inr (.inr (.inr (.inr (List.mem_map_of_mem hy)))))).trans (h.wo y hy) }
theorem RRep.kept {S : Nat → Prop} {w w' : World} {base : Nat} {r : RH} (h : RRep w base r) (hk : Keeps S w w') (hs : ∀ k, r.fp k → ¬ S k) : RRep w' base r :=
  h.keeps fun k hx => hk.block k (h.fp_lt k hx) (hs k hx)
theorem RRep.ext {w w' : World} {base : Nat} {r : RH} (h : RRep w base r) (hx : Ext w w') : RRep w' base r := h.kept hx fun _ _ => id
theorem RRep.len {w : World} {base : Nat} {r : RH} (h : RRep w base r) {b : Bk} (hb : b ∈ r.log.all) : b.ws.length ≤ 1000 := by
  have h1 := h.ok.uy; have h2 := h.ok.uo; have h3 := h.Y1; have h4 := h.O1
  have e1 : r.log.Y = r.Y := rfl
  have e2 : r.log.O = r.O := rfl
  rcases List.mem_append.1 hb with hb | hb
  · have := bused_mem hb; omega
  · have := bused_mem hb; omega
theorem RRep.ylen {w : World} {base : Nat} {r : RH} (h : RRep w base r) : r.log.yb.length ≤ 1000 := by
  have h1 := h.ok.uy; have h3 := h.Y1; have := bused_len r.log.yb
  have e1 : r.log.Y = r.Y := rfl
  omega
theorem RRep.olen {w : World} {base : Nat} {r : RH} (h : RRep w base r) : r.log.ob.length ≤ 1000 := by
  have h1 := h.ok.uo; have h3 := h.O1; have := bused_len r.log.ob
  have e1 : r.log.O = r.O := rfl
  omega

theorem RRep.mlen {w : World} {base : Nat} {r : RH} (h : RRep w base r) : r.M.length ≤ 1000 := by
  have h1 := nodup_lenZ (h.sorted.imp fun h => by omega : r.M.Nodup) h.msub
  have h2 := h.olen
  have e1 : r.log.ob.length = ((r.ob.map RB.b).map Bk.at_).length := by simp [RH.log]
  omega

/-! ### used -/
def IntR (n : Int) (w : World) (e : Ending) (w' : World) : Prop := e = .returned (.int .i64 n) ∧ w' = w
set_option maxRecDepth 100000 in
set_option maxHeartbeats 2000000 in
theorem Rused_any {w : World} {v : Value} {bs : List Bk} (h : RdB w v bs) (hl : bs.length ≤ 1000000) (hu : bused bs ≤ 1000000) : Calls Try.prog 73 #[v] w (IntR (bused bs) w) := by
  have HR := Lib.hid h
  generalize hM : IntR (bused bs) w = M
  have HM := Lib.hid hM
  obtain ⟨va, vc, rfl, -⟩ := h
  clear hM
  go_enter Try.func73, Try.ntmps73
  go_wp2_with fail
  go_loopw [3, 4] (fun n i wr => ∃ k : Nat, k ≤ bs.length ∧ i = .int .i64 k ∧ n = .int .i64 (bused (bs.take k)) ∧ wr = w) (fun n i wr => bs.length - (intOf i).toNat)
  case atStart => exact ⟨0, Nat.zero_le _, rfl, rfl, rfl⟩
  case round =>
    obtain ⟨k, hk, rfl, rfl, rfl⟩ := hrel
    by_cases hlt : k < bs.length
    · obtain ⟨b, hb⟩ : ∃ b, bs[k]? = some b := ⟨_, List.getElem?_eq_getElem hlt⟩
      obtain ⟨ad, rfl⟩ := HR.out.some (by rintro e; rw [e] at hb; simp at hb)
      obtain ⟨A, hA⟩ : ∃ A, ad.add (k * 3) = A := ⟨_, rfl⟩
      obtain ⟨su, a0, a1, a2, hsu⟩ := HR.out.at_ hb hA
      obtain ⟨sa, sc, rfl, -⟩ := hsu
      have hs := bused_take_succ hb
      have h1 := bused_take_le (k + 1) bs
      have h2 := bused_nonneg (bs.take k)
      have hwl : b.ws.length ≤ 1000000 := by omega
      have hs2 : bused (bs.take k) + ((b.ws.length : Int) + 1) = bused (bs.take (k + 1)) := by omega
      clear hb a0 a1 h1 hs
      generalize bused (bs.take k) = n0 at h2 hs2 ⊢
      have h3 : n0 ≤ 1000000 := by have := bused_take_le (k + 1) bs; omega
      go_wp2_with fail
      exact ⟨⟨k + 1, by omega, by simp, by rw [← hs2], trivial⟩, by simp only [intOf]; omega⟩
    · have hkn : k = bs.length := by omega
      subst hkn
      rw [List.take_length]
      have h2 := bused_nonneg bs
      go_wp2_with fail
      rw [← HM.out]
      exact ⟨rfl, rfl⟩

/-! ### at -/
def atI (bs : List Bk) (a : Int) : Int := match bs.findIdx? (fun b => b.at_ = a) with | some i => i | none => -1
theorem atI_neg {bs : List Bk} {a : Int} (h : ∀ b ∈ bs, b.at_ ≠ a) : atI bs a = -1 := by
  unfold atI
  rw [List.findIdx?_eq_none_iff.2 fun b hb => by simpa using h b hb]
theorem atI_pos {bs : List Bk} {a : Int} {k : Nat} {b : Bk} (hb : bs[k]? = some b) (he : b.at_ = a) (hT : ∀ c ∈ bs.take k, c.at_ ≠ a) : atI bs a = k := by
  unfold atI
  have : bs.findIdx? (fun b => b.at_ = a) = some k := by
    rw [List.findIdx?_eq_some_iff_getElem]
    obtain ⟨h1, h2⟩ := List.getElem?_eq_some_iff.1 hb
    refine ⟨h1, by simp [h2, he], fun j hj => ?_⟩
    have := hT bs[j] (List.mem_take_iff_getElem.2 ⟨j, by omega, rfl⟩)
    simpa using this
  rw [this]
set_option maxRecDepth 100000 in
set_option maxHeartbeats 2000000 in
theorem Rat_any {w : World} {v : Value} {bs : List Bk} (h : RdB w v bs) (hl : bs.length ≤ 1000000) (a : Int) : Calls Try.prog 80 #[v, .int .i64 a] w (IntR (atI bs a) w) := by
  have HR := Lib.hid h
  generalize hM : IntR (atI bs a) w = M
  have HM := Lib.hid hM
  obtain ⟨va, vc, rfl, -⟩ := h
  clear hM
  go_enter Try.func80, Try.ntmps80
  go_wp2_with fail
  go_loopw [5] (fun i wr => ∃ k : Nat, k ≤ bs.length ∧ i = .int .i64 k ∧ Hid (∀ b ∈ bs.take k, b.at_ ≠ a) ∧ wr = w) (fun i wr => bs.length - (intOf i).toNat)
  case atStart => exact ⟨0, Nat.zero_le _, rfl, Lib.hid (by simp), rfl⟩
  case round =>
    obtain ⟨k, hk, rfl, HT, rfl⟩ := hrel
    by_cases hlt : k < bs.length
    · obtain ⟨b, hb⟩ : ∃ b, bs[k]? = some b := ⟨_, List.getElem?_eq_getElem hlt⟩
      obtain ⟨ad, rfl⟩ := HR.out.some (by rintro e; rw [e] at hb; simp at hb)
      obtain ⟨A, hA⟩ : ∃ A, ad.add (k * 3) = A := ⟨_, rfl⟩
      obtain ⟨su, a0, a1, a2, hsu⟩ := HR.out.at_ hb hA
      have Hb := Lib.hid hb
      clear hsu a1 a2 hb
      by_cases he : b.at_ = a
      · have he' : (b.at_ == a) = true := by simpa using he
        have Hat := Lib.hid (atI_pos Hb.out he HT.out)
        clear he
        go_wp2_with fail
        rw [← HM.out]
        exact ⟨by rw [Hat.out]; rfl, rfl⟩
      · have he' : (b.at_ == a) = false := by simpa using he
        have He := Lib.hid he
        clear he
        go_wp2_with fail
        exact ⟨⟨k + 1, by omega, by simp, Lib.hid (by
          rw [List.take_add_one, Hb.out]
          intro c hc
          rcases List.mem_append.1 hc with hc | hc
          · exact HT.out c hc
          · simp at hc; rw [hc]; exact He.out), trivial⟩, by simp only [intOf]; omega⟩
    · have hkn : k = bs.length := by omega
      subst hkn
      have HT2 : Hid (atI bs a = -1) := Lib.hid (atI_neg (by have := HT.out; rwa [List.take_length] at this))
      go_wp2_with fail
      rw [← HM.out]
      exact ⟨by rw [HT2.out]; rfl, rfl⟩
end Go.Proofs.Ytikigppfnhilhaa
