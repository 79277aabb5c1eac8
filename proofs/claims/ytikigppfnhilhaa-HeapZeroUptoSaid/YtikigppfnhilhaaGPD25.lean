/- fixed: an act with the addresses that are meant. -/
import Derived.Test.YtikigppfnhilhaaGPD23
/- fixed: an act with the addresses that are meant. -/
namespace Go.Proofs.Ytikigppfnhilhaa
open Go.RowKit Go.Instr
set_option linter.unusedVariables false
set_option linter.unusedSimpArgs false

/-- An act. -/
structure Ac where
  kind : Int
  a : Int
  b : Int
  w : Wd
  roots : List Wd
  near : Bool
def Ac.cells (x : Ac) (rv : Value) : List Value := [.int .i64 x.kind, .int .i64 x.a, .int .i64 x.b, .int .i64 x.w.tag, .int .i64 x.w.a, .int .i64 x.w.b, .string x.w.text, .int .i64 x.w.man, .int .i64 x.w.exp, rv, .bool x.near]
def fixedA (bs : List Bk) (x : Ac) : Ac := if x.near = true then { x with a := if x.kind = 0 then x.a else nearB bs x.a, w := wordB bs x.w true, roots := x.roots.map fun u => wordB bs u true } else x

set_option maxRecDepth 100000 in
set_option maxHeartbeats 4000000 in
theorem fixed_far {w : World} (v : Value) (bs : List Bk) (x : Ac) (ra : Option Addr) (rn rc : Nat) (hn : x.near = false) :
    Calls Try.prog 13 #[v, .agg (x.cells (.slice ra rn rc)).toArray] w fun e w' => e = .returned (.agg ((fixedA bs x).cells (.slice ra rn rc)).toArray) ∧ Ext w w' := by
  have hf : fixedA bs x = x := by unfold fixedA; rw [if_neg (by simp [hn])]
  rw [hf]
  clear hf
  unfold Ac.cells
  rw [hn]
  go_enter Try.func13, Try.ntmps13
  go_wp2
  refine bodyPost_ret (results_cell_row rfl _ _ (w.heap.size + 1) 35 _ (0, 0) _ rfl (heap_alloc2_new w _ _) Try.underlying35 rfl (by kernel_rfl)) rfl ?_
  exact ⟨rfl, ((Ext.refl w).alloc _).alloc _⟩

theorem set11 {W0 : World} {b : Nat} {z0 z1 z2 z3 z4 z5 z6 z7 z8 z9 z10 : Value} {T : TypeId} (h : Blk W0 b #[z0, z1, z2, z3, z4, z5, z6, z7, z8, z9, z10] T) (u0 u1 u2 u3 u4 u5 u6 u7 u8 u9 u10 : Value) :
    Blk (((((((((((W0.setCell ⟨b, 0, none⟩ u0).setCell ⟨b, 1, none⟩ u1).setCell ⟨b, 2, none⟩ u2).setCell ⟨b, 3, none⟩ u3).setCell ⟨b, 4, none⟩ u4).setCell ⟨b, 5, none⟩ u5).setCell ⟨b, 6, none⟩ u6).setCell ⟨b, 7, none⟩ u7).setCell ⟨b, 8, none⟩ u8).setCell ⟨b, 9, none⟩ u9).setCell ⟨b, 10, none⟩ u10) b #[u0, u1, u2, u3, u4, u5, u6, u7, u8, u9, u10] T ∧ Keeps (· = b) W0 (((((((((((W0.setCell ⟨b, 0, none⟩ u0).setCell ⟨b, 1, none⟩ u1).setCell ⟨b, 2, none⟩ u2).setCell ⟨b, 3, none⟩ u3).setCell ⟨b, 4, none⟩ u4).setCell ⟨b, 5, none⟩ u5).setCell ⟨b, 6, none⟩ u6).setCell ⟨b, 7, none⟩ u7).setCell ⟨b, 8, none⟩ u8).setCell ⟨b, 9, none⟩ u9).setCell ⟨b, 10, none⟩ u10) :=
  ⟨by have h2 := (((((((((((h.set 0 u0).set 1 u1).set 2 u2).set 3 u3).set 4 u4).set 5 u5).set 6 u6).set 7 u7).set 8 u8).set 9 u9).set 10 u10); simpa using h2, ((((((((((((Keeps.refl (· = b) W0).setCell (p := ⟨b, 0, none⟩) (.inl rfl) u0).setCell (p := ⟨b, 1, none⟩) (.inl rfl) u1).setCell (p := ⟨b, 2, none⟩) (.inl rfl) u2).setCell (p := ⟨b, 3, none⟩) (.inl rfl) u3).setCell (p := ⟨b, 4, none⟩) (.inl rfl) u4).setCell (p := ⟨b, 5, none⟩) (.inl rfl) u5).setCell (p := ⟨b, 6, none⟩) (.inl rfl) u6).setCell (p := ⟨b, 7, none⟩) (.inl rfl) u7).setCell (p := ⟨b, 8, none⟩) (.inl rfl) u8).setCell (p := ⟨b, 9, none⟩) (.inl rfl) u9).setCell (p := ⟨b, 10, none⟩) (.inl rfl) u10)⟩

set_option maxRecDepth 100000 in
set_option maxHeartbeats 4000000 in
theorem fixed_near {w : World} {v : Value} {bs : List Bk} (h : RdB w v bs) (hl : bs.length ≤ 1000000) (x : Ac) (ra : Option Addr) (rn rc : Nat) (hr : RdW w (.slice ra rn rc) x.roots) (hrl : x.roots.length ≤ 1048576) (hn : x.near = true) :
    Calls Try.prog 13 #[v, .agg (x.cells (.slice ra rn rc)).toArray] w fun e w' => ∃ rv', e = .returned (.agg ((fixedA bs x).cells rv').toArray) ∧ w'.ownsRow w.heap.size 33 6 rv' (fixedA bs x).roots.length (flatL (fixedA bs x).roots) ∧ Ext w w' := by
  have hf : fixedA bs x = { x with a := if x.kind = 0 then x.a else nearB bs x.a, w := wordB bs x.w true, roots := x.roots.map fun u => wordB bs u true } := by unfold fixedA; rw [if_pos hn]
  have Hf := Lib.hid hf
  clear hf
  have Hnear := Lib.hid fun W (hW : Ext w W) n => near_any (h.ext hW) hl n
  have Hword := Lib.hid fun W (hW : Ext w W) u => lword_any (h.ext hW) hl u true
  have Hr := Lib.hid hr
  clear h hr
  obtain ⟨ra', rc', hrv, hr1, -⟩ := Hr.out
  injection hrv with e1 e2 e3
  subst e1; subst e2; subst e3
  have Hr1 := Lib.hid hr1
  clear hr1
  unfold Ac.cells
  rw [hn]
  go_enter Try.func13, Try.ntmps13
  by_cases hk : x.kind = 0
  · have hk' : (x.kind != 0) = false := by simpa using hk
    clear hk
    have Hfa : Hid (fixedA bs x = { x with a := x.a, w := wordB bs x.w true, roots := x.roots.map fun u => wordB bs u true }) := Lib.hid (by rw [Hf.out, if_pos (by simpa using hk')])
    clear Hf
    go_wp2_with fail
    refine (Hword.out _ (((Ext.refl w).alloc _).alloc _) x.w).mono ?_
    rintro e w3 ⟨rfl, hx3⟩
    obtain ⟨sz, hsz⟩ : ∃ sz, w.heap.size = sz := ⟨_, rfl⟩
    have HB1 : Hid (Blk w3 sz #[.int .i64 x.kind, .int .i64 (x.a), .int .i64 x.b, .int .i64 x.w.tag, .int .i64 x.w.a, .int .i64 x.w.b, .string x.w.text, .int .i64 x.w.man, .int .i64 x.w.exp, .slice ra x.roots.length rc, .bool true] 35) := Lib.hid (by rw [← hsz]; exact hx3.blk ((Blk.new w _ _).alloc _) id)
    have HB2 : Hid (Blk w3 (sz + 1) #[.int .i64 0, .int .i64 0, .int .i64 0, .int .i64 0, .int .i64 0, .int .i64 0, .string ⟨#[]⟩, .int .i64 0, .int .i64 0, .slice none 0 0, .bool false] 35) := Lib.hid (by rw [← hsz]; exact hx3.blk (heap_alloc2_new w _ _) id)
    have HX3 : Hid (Ext w w3) := Lib.hid ((((Ext.refl w).alloc _).alloc _).trans hx3)
    have Hs3 : Hid (sz + 2 ≤ w3.heap.size) := Lib.hid (by have := hx3.size; simp at this; omega)
    clear hx3
    rw [hsz]
    obtain ⟨W2, hW2⟩ : ∃ W2, wordB bs x.w true = W2 := ⟨_, rfl⟩
    rw [hW2]
    have HW2 := Lib.hid hW2
    have Hsz := Lib.hid hsz
    clear hW2 hsz
    unfold Wd.val Wd.cells
    have c3 : w3.cell? ⟨sz, 3, none⟩ = some (.int .i64 x.w.tag) := (HB1.out.cell 3).trans rfl
    have c4 : w3.cell? ⟨sz, 4, none⟩ = some (.int .i64 x.w.a) := (HB1.out.cell 4).trans rfl
    have c5 : w3.cell? ⟨sz, 5, none⟩ = some (.int .i64 x.w.b) := (HB1.out.cell 5).trans rfl
    have c6 : w3.cell? ⟨sz, 6, none⟩ = some (.string x.w.text) := (HB1.out.cell 6).trans rfl
    have c7 : w3.cell? ⟨sz, 7, none⟩ = some (.int .i64 x.w.man) := (HB1.out.cell 7).trans rfl
    have c8 : w3.cell? ⟨sz, 8, none⟩ = some (.int .i64 x.w.exp) := (HB1.out.cell 8).trans rfl
    have f3 := HB1.out.frozen 3
    have f4 := HB1.out.frozen 4
    have f5 := HB1.out.frozen 5
    have f6 := HB1.out.frozen 6
    have f7 := HB1.out.frozen 7
    have f8 := HB1.out.frozen 8
    go_wp2_with fail
    obtain ⟨V, hV⟩ : ∃ V, (((((w3.setCell ⟨sz, 3, none⟩ (.int .i64 W2.tag)).setCell ⟨sz, 4, none⟩ (.int .i64 W2.a)).setCell ⟨sz, 5, none⟩ (.int .i64 W2.b)).setCell ⟨sz, 6, none⟩ (.string W2.text)).setCell ⟨sz, 7, none⟩ (.int .i64 W2.man)).setCell ⟨sz, 8, none⟩ (.int .i64 W2.exp) = V := ⟨_, rfl⟩
    rw [hV]
    have HV1 : Hid (Blk V sz #[.int .i64 x.kind, .int .i64 (x.a), .int .i64 x.b, .int .i64 W2.tag, .int .i64 W2.a, .int .i64 W2.b, .string W2.text, .int .i64 W2.man, .int .i64 W2.exp, .slice ra x.roots.length rc, .bool true] 35) := Lib.hid (by
      rw [← hV]; exact (((((HB1.out.set 3 _).set 4 _).set 5 _).set 6 _).set 7 _).set 8 _)
    have HV2 : Hid (Blk V (sz + 1) #[.int .i64 0, .int .i64 0, .int .i64 0, .int .i64 0, .int .i64 0, .int .i64 0, .string ⟨#[]⟩, .int .i64 0, .int .i64 0, .slice none 0 0, .bool false] 35) := Lib.hid (by
      rw [← hV]; exact (((((HB2.out.far (a := ⟨sz, 3, none⟩) (by simp) _).far (a := ⟨sz, 4, none⟩) (by simp) _).far (a := ⟨sz, 5, none⟩) (by simp) _).far (a := ⟨sz, 6, none⟩) (by simp) _).far (a := ⟨sz, 7, none⟩) (by simp) _).far (a := ⟨sz, 8, none⟩) (by simp) _)
    have HXV : Hid (Ext w V) := Lib.hid (by
      rw [← hV]
      have hz : ∀ p : Nat, False ∨ w.heap.size ≤ (⟨sz, p, none⟩ : Addr).block := fun p => .inr (by rw [Hsz.out]; exact Nat.le_refl _)
      exact ((((((HX3.out.setCell (p := ⟨sz, 3, none⟩) (hz 3) _).setCell (p := ⟨sz, 4, none⟩) (hz 4) _).setCell (p := ⟨sz, 5, none⟩) (hz 5) _).setCell (p := ⟨sz, 6, none⟩) (hz 6) _).setCell (p := ⟨sz, 7, none⟩) (hz 7) _).setCell (p := ⟨sz, 8, none⟩) (hz 8) _))
    have HsV : Hid (sz + 2 ≤ V.heap.size) := Lib.hid (by rw [← hV]; simpa using Hs3.out)
    clear hV c3 c4 c5 c6 c7 c8 f3 f4 f5 f6 f7 f8 HB1 HB2 HX3 Hs3
    go_loopw [5, 6] (fun r i wr => ∃ k : Nat, k ≤ x.roots.length ∧ i = .int .i64 k ∧ Hid (wr.ownsRow (sz + 2) 33 6 r k (flatL ((x.roots.take k).map fun u => wordB bs u true))) ∧ Hid (Ext w wr) ∧ Hid (Keeps (fun j => sz + 2 ≤ j) V wr)) (fun r i wr => x.roots.length - (intOf i).toNat)
    case atStart => exact ⟨0, Nat.zero_le _, rfl, Lib.hid (World.ownsRow_nil _ _ _ _), HXV, Lib.hid (Keeps.refl _ V)⟩
    case round =>
      obtain ⟨k, hk, rfl, HO, HX, HKV⟩ := hrel
      have HW1 := Lib.hid (HKV.out.blk HV1.out (by omega))
      have e9 : wr.cell? ⟨sz, 9, none⟩ = some (.slice ra x.roots.length rc) := (HW1.out.cell 9).trans rfl
      by_cases hlt : k < x.roots.length
      · obtain ⟨u, hu⟩ : ∃ u, x.roots[k]? = some u := ⟨_, List.getElem?_eq_getElem hlt⟩
        cases ra with
        | none => rw [Hr1.out rfl] at hlt; simp at hlt
        | some ad =>
        obtain ⟨A, hA⟩ : ∃ A, ad.add (k * 6) = A := ⟨_, rfl⟩
        obtain ⟨a0, a1, a2, a3, a4, a5⟩ := (Hr.out.ext HX.out).six hu hA
        have Hu := Lib.hid hu
        clear hu
        go_wp2_with fail
        refine (Hword.out wr HX.out u).mono ?_
        rintro e w5 ⟨rfl, hx5⟩
        have HX5 := Lib.hid (HX.out.trans hx5)
        have HO5 := Lib.hid (own_ext HO.out hx5)
        have HKV5 : Hid (Keeps (fun j => sz + 2 ≤ j) V w5) := Lib.hid (HKV.out.trans' hx5 fun _ _ h => h.elim)
        have hs5 : sz + 2 ≤ w5.heap.size := Nat.le_trans HsV.out HKV5.out.size
        obtain ⟨U, hU⟩ : ∃ U, wordB bs u true = U := ⟨_, rfl⟩
        rw [hU]
        have HU := Lib.hid hU
        clear hx5 hU HO HX HKV HW1 e9 a0 a1 a2 a3 a4 a5 hA
        unfold Wd.val Wd.cells
        obtain ⟨i0, hi, hz0, hz1, hz2⟩ := info_parts info_wordC
        go_wp2_with (at_builtin; refine wpList_append_fresh rfl _ _ 23 rfl (sz + 2) 33 i0 _ 6 56 Try.underlying23 hi hz0 hz1 hz2 rfl (by decide) _ k (flatL ((x.roots.take k).map fun u => wordB bs u true)) rfl (own_ext HO5.out ((Ext.refl w5).alloc _)) ⟨w5.heap.size, 0, none⟩ 1 1 U.cells rfl rfl ?c1 ?c2 ?c3 ?c4 ?c5 ?_)
        case c1 =>
          intro j z hz
          rw [show (⟨w5.heap.size, 0, none⟩ : Addr).add j = ⟨w5.heap.size, j, none⟩ from by unfold Addr.add; split <;> simp_all]
          rw [(Blk.new w5 _ _).cell j]
          simpa [Wd.cells] using hz
        case c2 => exact fun z hz => flatL_one [U] z (by simpa [flatL] using hz)
        case c3 => unfold maxLen; omega
        case c4 => omega
        case c5 => simp; omega
        intro v' w6 hown hgrow hnil hfresh
        have hrow : ∀ j, u5.ownBlock = some j → sz + 2 ≤ j := fun j e => (HO5.out.lt j e).1
        have HX6 : Hid (Ext w w6) := Lib.hid ((HX5.out.alloc _).grown hgrow fun j e => .inr (by have := hrow j e; have := Hsz.out; omega))
        have HKV6 : Hid (Keeps (fun j => sz + 2 ≤ j) V w6) := Lib.hid ((HKV5.out.alloc _).grown hgrow fun j e => .inl (hrow j e))
        have Hown := Lib.hid hown
        clear hown hgrow hnil hfresh hrow
        go_wp2
        refine ⟨⟨k + 1, by omega, by simp, ?_, HX6, HKV6⟩, by simp only [intOf]; omega⟩
        have := Hown.out
        rw [List.take_add_one, Hu.out, List.map_append, flatL_append]
        refine Lib.hid ?_
        simpa [flatL, HU.out] using this
      · have hkn : k = x.roots.length := by omega
        subst hkn
        have f9 := HW1.out.frozen 9
        obtain ⟨oa, oc, rfl⟩ := own_slice HO.out
        have HW9 := Lib.hid (HW1.out.set 9 (.slice oa x.roots.length oc))
        have HZ := Lib.hid ((HKV.out.blk HV2.out (by omega)).far (a := ⟨sz, 9, none⟩) (by simp) (.slice oa x.roots.length oc))
        have g0 : (wr.setCell ⟨sz, 9, none⟩ (.slice oa x.roots.length oc)).cell? ⟨sz, 0, none⟩ = some (.int .i64 x.kind) := (HW9.out.cell 0).trans rfl
        have g1 : (wr.setCell ⟨sz, 9, none⟩ (.slice oa x.roots.length oc)).cell? ⟨sz, 1, none⟩ = some (.int .i64 (x.a)) := (HW9.out.cell 1).trans rfl
        have g2 : (wr.setCell ⟨sz, 9, none⟩ (.slice oa x.roots.length oc)).cell? ⟨sz, 2, none⟩ = some (.int .i64 x.b) := (HW9.out.cell 2).trans rfl
        have g3 : (wr.setCell ⟨sz, 9, none⟩ (.slice oa x.roots.length oc)).cell? ⟨sz, 3, none⟩ = some (.int .i64 W2.tag) := (HW9.out.cell 3).trans rfl
        have g4 : (wr.setCell ⟨sz, 9, none⟩ (.slice oa x.roots.length oc)).cell? ⟨sz, 4, none⟩ = some (.int .i64 W2.a) := (HW9.out.cell 4).trans rfl
        have g5 : (wr.setCell ⟨sz, 9, none⟩ (.slice oa x.roots.length oc)).cell? ⟨sz, 5, none⟩ = some (.int .i64 W2.b) := (HW9.out.cell 5).trans rfl
        have g6 : (wr.setCell ⟨sz, 9, none⟩ (.slice oa x.roots.length oc)).cell? ⟨sz, 6, none⟩ = some (.string W2.text) := (HW9.out.cell 6).trans rfl
        have g7 : (wr.setCell ⟨sz, 9, none⟩ (.slice oa x.roots.length oc)).cell? ⟨sz, 7, none⟩ = some (.int .i64 W2.man) := (HW9.out.cell 7).trans rfl
        have g8 : (wr.setCell ⟨sz, 9, none⟩ (.slice oa x.roots.length oc)).cell? ⟨sz, 8, none⟩ = some (.int .i64 W2.exp) := (HW9.out.cell 8).trans rfl
        have g9 : (wr.setCell ⟨sz, 9, none⟩ (.slice oa x.roots.length oc)).cell? ⟨sz, 9, none⟩ = some (.slice oa x.roots.length oc) := (HW9.out.cell 9).trans rfl
        have g10 : (wr.setCell ⟨sz, 9, none⟩ (.slice oa x.roots.length oc)).cell? ⟨sz, 10, none⟩ = some (.bool true) := (HW9.out.cell 10).trans rfl
        have z0 : (wr.setCell ⟨sz, 9, none⟩ (.slice oa x.roots.length oc)).cell? ⟨sz + 1, 0, none⟩ = some (.int .i64 0) := (HZ.out.cell 0).trans rfl
        have y0 := HZ.out.frozen 0
        have z1 : (wr.setCell ⟨sz, 9, none⟩ (.slice oa x.roots.length oc)).cell? ⟨sz + 1, 1, none⟩ = some (.int .i64 0) := (HZ.out.cell 1).trans rfl
        have y1 := HZ.out.frozen 1
        have z2 : (wr.setCell ⟨sz, 9, none⟩ (.slice oa x.roots.length oc)).cell? ⟨sz + 1, 2, none⟩ = some (.int .i64 0) := (HZ.out.cell 2).trans rfl
        have y2 := HZ.out.frozen 2
        have z3 : (wr.setCell ⟨sz, 9, none⟩ (.slice oa x.roots.length oc)).cell? ⟨sz + 1, 3, none⟩ = some (.int .i64 0) := (HZ.out.cell 3).trans rfl
        have y3 := HZ.out.frozen 3
        have z4 : (wr.setCell ⟨sz, 9, none⟩ (.slice oa x.roots.length oc)).cell? ⟨sz + 1, 4, none⟩ = some (.int .i64 0) := (HZ.out.cell 4).trans rfl
        have y4 := HZ.out.frozen 4
        have z5 : (wr.setCell ⟨sz, 9, none⟩ (.slice oa x.roots.length oc)).cell? ⟨sz + 1, 5, none⟩ = some (.int .i64 0) := (HZ.out.cell 5).trans rfl
        have y5 := HZ.out.frozen 5
        have z6 : (wr.setCell ⟨sz, 9, none⟩ (.slice oa x.roots.length oc)).cell? ⟨sz + 1, 6, none⟩ = some (.string ⟨#[]⟩) := (HZ.out.cell 6).trans rfl
        have y6 := HZ.out.frozen 6
        have z7 : (wr.setCell ⟨sz, 9, none⟩ (.slice oa x.roots.length oc)).cell? ⟨sz + 1, 7, none⟩ = some (.int .i64 0) := (HZ.out.cell 7).trans rfl
        have y7 := HZ.out.frozen 7
        have z8 : (wr.setCell ⟨sz, 9, none⟩ (.slice oa x.roots.length oc)).cell? ⟨sz + 1, 8, none⟩ = some (.int .i64 0) := (HZ.out.cell 8).trans rfl
        have y8 := HZ.out.frozen 8
        have z9 : (wr.setCell ⟨sz, 9, none⟩ (.slice oa x.roots.length oc)).cell? ⟨sz + 1, 9, none⟩ = some (.slice none 0 0) := (HZ.out.cell 9).trans rfl
        have y9 := HZ.out.frozen 9
        have z10 : (wr.setCell ⟨sz, 9, none⟩ (.slice oa x.roots.length oc)).cell? ⟨sz + 1, 10, none⟩ = some (.bool false) := (HZ.out.cell 10).trans rfl
        have y10 := HZ.out.frozen 10
        have HXe : Hid (Ext w (wr.setCell ⟨sz, 9, none⟩ (.slice oa x.roots.length oc))) := Lib.hid (HX.out.setCell (p := ⟨sz, 9, none⟩) (.inr (by rw [Hsz.out]; exact Nat.le_refl _)) _)
        have HOe : Hid ((wr.setCell ⟨sz, 9, none⟩ (.slice oa x.roots.length oc)).ownsRow (sz + 2) 33 6 (.slice oa x.roots.length oc) x.roots.length (flatL ((x.roots.take x.roots.length).map fun u => wordB bs u true))) := Lib.hid (ownsRow_set HO.out (a := ⟨sz, 9, none⟩) HW1.out (by decide) _)
        go_wp2_with fail
        obtain ⟨W0, hW0⟩ : ∃ W0, wr.setCell ⟨sz, 9, none⟩ (.slice oa x.roots.length oc) = W0 := ⟨_, rfl⟩
        rw [hW0] at HW9 HZ HXe HOe
        rw [hW0]
        obtain ⟨hb11, hk11⟩ := set11 HZ.out (.int .i64 x.kind) (.int .i64 (x.a)) (.int .i64 x.b) (.int .i64 W2.tag) (.int .i64 W2.a) (.int .i64 W2.b) (.string W2.text) (.int .i64 W2.man) (.int .i64 W2.exp) (.slice oa x.roots.length oc) (.bool true)
        refine bodyPost_ret (results_cell_row rfl _ _ (sz + 1) 35 _ (0, 0) _ rfl hb11 Try.underlying35 rfl (by kernel_rfl)) rfl ?_
        refine ⟨.slice oa x.roots.length oc, ?_, ?_, HXe.out.trans' hk11 fun j hj e => ?_⟩
        · rw [Hfa.out, HW2.out]; simp [hn]
        · have h1 := ownsRow_keeps HOe.out fun j hj => hk11.block j (by obtain ⟨cur, hc⟩ := ownsRow_type HOe.out hj; exact hc.lt) (by
            obtain ⟨cur, hc⟩ := ownsRow_type HOe.out hj
            exact hc.ne HZ.out (by decide))
          rw [Hfa.out]
          have h2 := ownsRow_base h1 (show w.heap.size ≤ sz + 2 from by rw [Hsz.out]; omega)
          simpa [List.take_length] using h2
        · have := Hsz.out; omega
  · have hk' : (x.kind != 0) = true := by simpa using hk
    have Hfa : Hid (fixedA bs x = { x with a := nearB bs x.a, w := wordB bs x.w true, roots := x.roots.map fun u => wordB bs u true }) := Lib.hid (by rw [Hf.out, if_neg hk])
    clear hk Hf
    go_wp2_with fail
    refine (Hnear.out _ (((Ext.refl w).alloc _).alloc _) x.a).mono ?_
    rintro e w2 ⟨rfl, rfl⟩
    go_wp2_with fail
    refine (Hword.out _ (((Ext.refl w).alloc _).alloc _) x.w).mono ?_
    rintro e w3 ⟨rfl, hx3⟩
    obtain ⟨sz, hsz⟩ : ∃ sz, w.heap.size = sz := ⟨_, rfl⟩
    have HB1 : Hid (Blk w3 sz #[.int .i64 x.kind, .int .i64 (nearB bs x.a), .int .i64 x.b, .int .i64 x.w.tag, .int .i64 x.w.a, .int .i64 x.w.b, .string x.w.text, .int .i64 x.w.man, .int .i64 x.w.exp, .slice ra x.roots.length rc, .bool true] 35) := Lib.hid (by rw [← hsz]; exact hx3.blk ((Blk.new w _ _).alloc _) id)
    have HB2 : Hid (Blk w3 (sz + 1) #[.int .i64 0, .int .i64 0, .int .i64 0, .int .i64 0, .int .i64 0, .int .i64 0, .string ⟨#[]⟩, .int .i64 0, .int .i64 0, .slice none 0 0, .bool false] 35) := Lib.hid (by rw [← hsz]; exact hx3.blk (heap_alloc2_new w _ _) id)
    have HX3 : Hid (Ext w w3) := Lib.hid ((((Ext.refl w).alloc _).alloc _).trans hx3)
    have Hs3 : Hid (sz + 2 ≤ w3.heap.size) := Lib.hid (by have := hx3.size; simp at this; omega)
    clear hx3
    rw [hsz]
    obtain ⟨W2, hW2⟩ : ∃ W2, wordB bs x.w true = W2 := ⟨_, rfl⟩
    rw [hW2]
    have HW2 := Lib.hid hW2
    have Hsz := Lib.hid hsz
    clear hW2 hsz
    unfold Wd.val Wd.cells
    have c3 : w3.cell? ⟨sz, 3, none⟩ = some (.int .i64 x.w.tag) := (HB1.out.cell 3).trans rfl
    have c4 : w3.cell? ⟨sz, 4, none⟩ = some (.int .i64 x.w.a) := (HB1.out.cell 4).trans rfl
    have c5 : w3.cell? ⟨sz, 5, none⟩ = some (.int .i64 x.w.b) := (HB1.out.cell 5).trans rfl
    have c6 : w3.cell? ⟨sz, 6, none⟩ = some (.string x.w.text) := (HB1.out.cell 6).trans rfl
    have c7 : w3.cell? ⟨sz, 7, none⟩ = some (.int .i64 x.w.man) := (HB1.out.cell 7).trans rfl
    have c8 : w3.cell? ⟨sz, 8, none⟩ = some (.int .i64 x.w.exp) := (HB1.out.cell 8).trans rfl
    have f3 := HB1.out.frozen 3
    have f4 := HB1.out.frozen 4
    have f5 := HB1.out.frozen 5
    have f6 := HB1.out.frozen 6
    have f7 := HB1.out.frozen 7
    have f8 := HB1.out.frozen 8
    go_wp2_with fail
    obtain ⟨V, hV⟩ : ∃ V, (((((w3.setCell ⟨sz, 3, none⟩ (.int .i64 W2.tag)).setCell ⟨sz, 4, none⟩ (.int .i64 W2.a)).setCell ⟨sz, 5, none⟩ (.int .i64 W2.b)).setCell ⟨sz, 6, none⟩ (.string W2.text)).setCell ⟨sz, 7, none⟩ (.int .i64 W2.man)).setCell ⟨sz, 8, none⟩ (.int .i64 W2.exp) = V := ⟨_, rfl⟩
    rw [hV]
    have HV1 : Hid (Blk V sz #[.int .i64 x.kind, .int .i64 (nearB bs x.a), .int .i64 x.b, .int .i64 W2.tag, .int .i64 W2.a, .int .i64 W2.b, .string W2.text, .int .i64 W2.man, .int .i64 W2.exp, .slice ra x.roots.length rc, .bool true] 35) := Lib.hid (by
      rw [← hV]; exact (((((HB1.out.set 3 _).set 4 _).set 5 _).set 6 _).set 7 _).set 8 _)
    have HV2 : Hid (Blk V (sz + 1) #[.int .i64 0, .int .i64 0, .int .i64 0, .int .i64 0, .int .i64 0, .int .i64 0, .string ⟨#[]⟩, .int .i64 0, .int .i64 0, .slice none 0 0, .bool false] 35) := Lib.hid (by
      rw [← hV]; exact (((((HB2.out.far (a := ⟨sz, 3, none⟩) (by simp) _).far (a := ⟨sz, 4, none⟩) (by simp) _).far (a := ⟨sz, 5, none⟩) (by simp) _).far (a := ⟨sz, 6, none⟩) (by simp) _).far (a := ⟨sz, 7, none⟩) (by simp) _).far (a := ⟨sz, 8, none⟩) (by simp) _)
    have HXV : Hid (Ext w V) := Lib.hid (by
      rw [← hV]
      have hz : ∀ p : Nat, False ∨ w.heap.size ≤ (⟨sz, p, none⟩ : Addr).block := fun p => .inr (by rw [Hsz.out]; exact Nat.le_refl _)
      exact ((((((HX3.out.setCell (p := ⟨sz, 3, none⟩) (hz 3) _).setCell (p := ⟨sz, 4, none⟩) (hz 4) _).setCell (p := ⟨sz, 5, none⟩) (hz 5) _).setCell (p := ⟨sz, 6, none⟩) (hz 6) _).setCell (p := ⟨sz, 7, none⟩) (hz 7) _).setCell (p := ⟨sz, 8, none⟩) (hz 8) _))
    have HsV : Hid (sz + 2 ≤ V.heap.size) := Lib.hid (by rw [← hV]; simpa using Hs3.out)
    clear hV c3 c4 c5 c6 c7 c8 f3 f4 f5 f6 f7 f8 HB1 HB2 HX3 Hs3
    go_loopw [5, 6] (fun r i wr => ∃ k : Nat, k ≤ x.roots.length ∧ i = .int .i64 k ∧ Hid (wr.ownsRow (sz + 2) 33 6 r k (flatL ((x.roots.take k).map fun u => wordB bs u true))) ∧ Hid (Ext w wr) ∧ Hid (Keeps (fun j => sz + 2 ≤ j) V wr)) (fun r i wr => x.roots.length - (intOf i).toNat)
    case atStart => exact ⟨0, Nat.zero_le _, rfl, Lib.hid (World.ownsRow_nil _ _ _ _), HXV, Lib.hid (Keeps.refl _ V)⟩
    case round =>
      obtain ⟨k, hk, rfl, HO, HX, HKV⟩ := hrel
      have HW1 := Lib.hid (HKV.out.blk HV1.out (by omega))
      have e9 : wr.cell? ⟨sz, 9, none⟩ = some (.slice ra x.roots.length rc) := (HW1.out.cell 9).trans rfl
      by_cases hlt : k < x.roots.length
      · obtain ⟨u, hu⟩ : ∃ u, x.roots[k]? = some u := ⟨_, List.getElem?_eq_getElem hlt⟩
        cases ra with
        | none => rw [Hr1.out rfl] at hlt; simp at hlt
        | some ad =>
        obtain ⟨A, hA⟩ : ∃ A, ad.add (k * 6) = A := ⟨_, rfl⟩
        obtain ⟨a0, a1, a2, a3, a4, a5⟩ := (Hr.out.ext HX.out).six hu hA
        have Hu := Lib.hid hu
        clear hu
        go_wp2_with fail
        refine (Hword.out wr HX.out u).mono ?_
        rintro e w5 ⟨rfl, hx5⟩
        have HX5 := Lib.hid (HX.out.trans hx5)
        have HO5 := Lib.hid (own_ext HO.out hx5)
        have HKV5 : Hid (Keeps (fun j => sz + 2 ≤ j) V w5) := Lib.hid (HKV.out.trans' hx5 fun _ _ h => h.elim)
        have hs5 : sz + 2 ≤ w5.heap.size := Nat.le_trans HsV.out HKV5.out.size
        obtain ⟨U, hU⟩ : ∃ U, wordB bs u true = U := ⟨_, rfl⟩
        rw [hU]
        have HU := Lib.hid hU
        clear hx5 hU HO HX HKV HW1 e9 a0 a1 a2 a3 a4 a5 hA
        unfold Wd.val Wd.cells
        obtain ⟨i0, hi, hz0, hz1, hz2⟩ := info_parts info_wordC
        go_wp2_with (at_builtin; refine wpList_append_fresh rfl _ _ 23 rfl (sz + 2) 33 i0 _ 6 56 Try.underlying23 hi hz0 hz1 hz2 rfl (by decide) _ k (flatL ((x.roots.take k).map fun u => wordB bs u true)) rfl (own_ext HO5.out ((Ext.refl w5).alloc _)) ⟨w5.heap.size, 0, none⟩ 1 1 U.cells rfl rfl ?c1 ?c2 ?c3 ?c4 ?c5 ?_)
        case c1 =>
          intro j z hz
          rw [show (⟨w5.heap.size, 0, none⟩ : Addr).add j = ⟨w5.heap.size, j, none⟩ from by unfold Addr.add; split <;> simp_all]
          rw [(Blk.new w5 _ _).cell j]
          simpa [Wd.cells] using hz
        case c2 => exact fun z hz => flatL_one [U] z (by simpa [flatL] using hz)
        case c3 => unfold maxLen; omega
        case c4 => omega
        case c5 => simp; omega
        intro v' w6 hown hgrow hnil hfresh
        have hrow : ∀ j, u5.ownBlock = some j → sz + 2 ≤ j := fun j e => (HO5.out.lt j e).1
        have HX6 : Hid (Ext w w6) := Lib.hid ((HX5.out.alloc _).grown hgrow fun j e => .inr (by have := hrow j e; have := Hsz.out; omega))
        have HKV6 : Hid (Keeps (fun j => sz + 2 ≤ j) V w6) := Lib.hid ((HKV5.out.alloc _).grown hgrow fun j e => .inl (hrow j e))
        have Hown := Lib.hid hown
        clear hown hgrow hnil hfresh hrow
        go_wp2
        refine ⟨⟨k + 1, by omega, by simp, ?_, HX6, HKV6⟩, by simp only [intOf]; omega⟩
        have := Hown.out
        rw [List.take_add_one, Hu.out, List.map_append, flatL_append]
        refine Lib.hid ?_
        simpa [flatL, HU.out] using this
      · have hkn : k = x.roots.length := by omega
        subst hkn
        have f9 := HW1.out.frozen 9
        obtain ⟨oa, oc, rfl⟩ := own_slice HO.out
        have HW9 := Lib.hid (HW1.out.set 9 (.slice oa x.roots.length oc))
        have HZ := Lib.hid ((HKV.out.blk HV2.out (by omega)).far (a := ⟨sz, 9, none⟩) (by simp) (.slice oa x.roots.length oc))
        have g0 : (wr.setCell ⟨sz, 9, none⟩ (.slice oa x.roots.length oc)).cell? ⟨sz, 0, none⟩ = some (.int .i64 x.kind) := (HW9.out.cell 0).trans rfl
        have g1 : (wr.setCell ⟨sz, 9, none⟩ (.slice oa x.roots.length oc)).cell? ⟨sz, 1, none⟩ = some (.int .i64 (nearB bs x.a)) := (HW9.out.cell 1).trans rfl
        have g2 : (wr.setCell ⟨sz, 9, none⟩ (.slice oa x.roots.length oc)).cell? ⟨sz, 2, none⟩ = some (.int .i64 x.b) := (HW9.out.cell 2).trans rfl
        have g3 : (wr.setCell ⟨sz, 9, none⟩ (.slice oa x.roots.length oc)).cell? ⟨sz, 3, none⟩ = some (.int .i64 W2.tag) := (HW9.out.cell 3).trans rfl
        have g4 : (wr.setCell ⟨sz, 9, none⟩ (.slice oa x.roots.length oc)).cell? ⟨sz, 4, none⟩ = some (.int .i64 W2.a) := (HW9.out.cell 4).trans rfl
        have g5 : (wr.setCell ⟨sz, 9, none⟩ (.slice oa x.roots.length oc)).cell? ⟨sz, 5, none⟩ = some (.int .i64 W2.b) := (HW9.out.cell 5).trans rfl
        have g6 : (wr.setCell ⟨sz, 9, none⟩ (.slice oa x.roots.length oc)).cell? ⟨sz, 6, none⟩ = some (.string W2.text) := (HW9.out.cell 6).trans rfl
        have g7 : (wr.setCell ⟨sz, 9, none⟩ (.slice oa x.roots.length oc)).cell? ⟨sz, 7, none⟩ = some (.int .i64 W2.man) := (HW9.out.cell 7).trans rfl
        have g8 : (wr.setCell ⟨sz, 9, none⟩ (.slice oa x.roots.length oc)).cell? ⟨sz, 8, none⟩ = some (.int .i64 W2.exp) := (HW9.out.cell 8).trans rfl
        have g9 : (wr.setCell ⟨sz, 9, none⟩ (.slice oa x.roots.length oc)).cell? ⟨sz, 9, none⟩ = some (.slice oa x.roots.length oc) := (HW9.out.cell 9).trans rfl
        have g10 : (wr.setCell ⟨sz, 9, none⟩ (.slice oa x.roots.length oc)).cell? ⟨sz, 10, none⟩ = some (.bool true) := (HW9.out.cell 10).trans rfl
        have z0 : (wr.setCell ⟨sz, 9, none⟩ (.slice oa x.roots.length oc)).cell? ⟨sz + 1, 0, none⟩ = some (.int .i64 0) := (HZ.out.cell 0).trans rfl
        have y0 := HZ.out.frozen 0
        have z1 : (wr.setCell ⟨sz, 9, none⟩ (.slice oa x.roots.length oc)).cell? ⟨sz + 1, 1, none⟩ = some (.int .i64 0) := (HZ.out.cell 1).trans rfl
        have y1 := HZ.out.frozen 1
        have z2 : (wr.setCell ⟨sz, 9, none⟩ (.slice oa x.roots.length oc)).cell? ⟨sz + 1, 2, none⟩ = some (.int .i64 0) := (HZ.out.cell 2).trans rfl
        have y2 := HZ.out.frozen 2
        have z3 : (wr.setCell ⟨sz, 9, none⟩ (.slice oa x.roots.length oc)).cell? ⟨sz + 1, 3, none⟩ = some (.int .i64 0) := (HZ.out.cell 3).trans rfl
        have y3 := HZ.out.frozen 3
        have z4 : (wr.setCell ⟨sz, 9, none⟩ (.slice oa x.roots.length oc)).cell? ⟨sz + 1, 4, none⟩ = some (.int .i64 0) := (HZ.out.cell 4).trans rfl
        have y4 := HZ.out.frozen 4
        have z5 : (wr.setCell ⟨sz, 9, none⟩ (.slice oa x.roots.length oc)).cell? ⟨sz + 1, 5, none⟩ = some (.int .i64 0) := (HZ.out.cell 5).trans rfl
        have y5 := HZ.out.frozen 5
        have z6 : (wr.setCell ⟨sz, 9, none⟩ (.slice oa x.roots.length oc)).cell? ⟨sz + 1, 6, none⟩ = some (.string ⟨#[]⟩) := (HZ.out.cell 6).trans rfl
        have y6 := HZ.out.frozen 6
        have z7 : (wr.setCell ⟨sz, 9, none⟩ (.slice oa x.roots.length oc)).cell? ⟨sz + 1, 7, none⟩ = some (.int .i64 0) := (HZ.out.cell 7).trans rfl
        have y7 := HZ.out.frozen 7
        have z8 : (wr.setCell ⟨sz, 9, none⟩ (.slice oa x.roots.length oc)).cell? ⟨sz + 1, 8, none⟩ = some (.int .i64 0) := (HZ.out.cell 8).trans rfl
        have y8 := HZ.out.frozen 8
        have z9 : (wr.setCell ⟨sz, 9, none⟩ (.slice oa x.roots.length oc)).cell? ⟨sz + 1, 9, none⟩ = some (.slice none 0 0) := (HZ.out.cell 9).trans rfl
        have y9 := HZ.out.frozen 9
        have z10 : (wr.setCell ⟨sz, 9, none⟩ (.slice oa x.roots.length oc)).cell? ⟨sz + 1, 10, none⟩ = some (.bool false) := (HZ.out.cell 10).trans rfl
        have y10 := HZ.out.frozen 10
        have HXe : Hid (Ext w (wr.setCell ⟨sz, 9, none⟩ (.slice oa x.roots.length oc))) := Lib.hid (HX.out.setCell (p := ⟨sz, 9, none⟩) (.inr (by rw [Hsz.out]; exact Nat.le_refl _)) _)
        have HOe : Hid ((wr.setCell ⟨sz, 9, none⟩ (.slice oa x.roots.length oc)).ownsRow (sz + 2) 33 6 (.slice oa x.roots.length oc) x.roots.length (flatL ((x.roots.take x.roots.length).map fun u => wordB bs u true))) := Lib.hid (ownsRow_set HO.out (a := ⟨sz, 9, none⟩) HW1.out (by decide) _)
        go_wp2_with fail
        obtain ⟨W0, hW0⟩ : ∃ W0, wr.setCell ⟨sz, 9, none⟩ (.slice oa x.roots.length oc) = W0 := ⟨_, rfl⟩
        rw [hW0] at HW9 HZ HXe HOe
        rw [hW0]
        obtain ⟨hb11, hk11⟩ := set11 HZ.out (.int .i64 x.kind) (.int .i64 (nearB bs x.a)) (.int .i64 x.b) (.int .i64 W2.tag) (.int .i64 W2.a) (.int .i64 W2.b) (.string W2.text) (.int .i64 W2.man) (.int .i64 W2.exp) (.slice oa x.roots.length oc) (.bool true)
        refine bodyPost_ret (results_cell_row rfl _ _ (sz + 1) 35 _ (0, 0) _ rfl hb11 Try.underlying35 rfl (by kernel_rfl)) rfl ?_
        refine ⟨.slice oa x.roots.length oc, ?_, ?_, HXe.out.trans' hk11 fun j hj e => ?_⟩
        · rw [Hfa.out, HW2.out]; simp [hn]
        · have h1 := ownsRow_keeps HOe.out fun j hj => hk11.block j (by obtain ⟨cur, hc⟩ := ownsRow_type HOe.out hj; exact hc.lt) (by
            obtain ⟨cur, hc⟩ := ownsRow_type HOe.out hj
            exact hc.ne HZ.out (by decide))
          rw [Hfa.out]
          have h2 := ownsRow_base h1 (show w.heap.size ≤ sz + 2 from by rw [Hsz.out]; omega)
          simpa [List.take_length] using h2
        · have := Hsz.out; omega
end Go.Proofs.Ytikigppfnhilhaa
