/- isomorphic: what is reached corresponds. -/
import Derived.Test.YtikigppfnhilhaaKC
namespace Go.Proofs.Ytikigppfnhilhaa
open Go.RowKit Go.Instr
set_option linter.unusedVariables false
set_option linter.unusedSimpArgs false
attribute [local go_sem] Oper.semAt_some

/-- Blocks that correspond. -/
def BsR (R : Int → Int → Prop) (xs ys : List Bk) : Prop :=
  ∀ a b, R a b → ∃ x y, xs.find? (fun z => z.at_ = a) = some x ∧ ys.find? (fun z => z.at_ = b) = some y ∧ x.kind = y.kind ∧ WsR R x.ws y.ws

def IsoR (w : World) (e : Ending) (w' : World) : Prop := e = .returned (.bool true) ∧ Ext w w'
theorem ext_of_below {w w' : World} {B : Nat} (h : Below B w w') (hB : w.heap.size ≤ B) : Ext w w' := Keeps.of_below (h.mono hB) _ fun k hk hb => by omega

set_option maxRecDepth 100000 in
set_option maxHeartbeats 16000000 in
theorem isomorphic_any {R : Int → Int → Prop} {D : List Int} (hR : Rel2 R D) {w : World} {va vb x y : Value} {xs ys : List Bk} {us vs : List Wd}
    (ha : RdB w va xs) (hb : RdB w vb ys) (hx : RdW w x us) (hy : RdW w y vs) (hw : WsR R us vs) (hbs : BsR R xs ys) (hal : xs.length ≤ 900000) (hbl : ys.length ≤ 1000000) (hD : D.length ≤ xs.length)
    (hl : us.length ≤ 2000000) (hl2 : ∀ z ∈ xs, z.ws.length ≤ 2000000) :
    Calls Try.prog 16 #[va, x, vb, y] w (IsoR w) := by
  have HA := Lib.hid ha; have HB := Lib.hid hb; have HX := Lib.hid hx; have HY := Lib.hid hy; have HW := Lib.hid hw; have HRR := Lib.hid hR; have HBS := Lib.hid hbs; have HL2 := Lib.hid hl2
  obtain ⟨aa, ac, rfl, -, -⟩ := ha
  obtain ⟨ba, bc, rfl, -, -⟩ := hb
  obtain ⟨xa, xc, rfl, -, -⟩ := hx
  obtain ⟨ya, yc, rfl, -, -⟩ := hy
  generalize hM : IsoR w = M
  have HM := Lib.hid hM
  clear hw hR hbs hM hl2
  go_enter Try.func16, Try.ntmps16
  go_wp2_with fail
  obtain ⟨sz, hsz⟩ : ∃ sz, w.heap.size = sz := ⟨_, rfl⟩
  obtain ⟨W1, hW⟩ : ∃ W1, w.alloc (.cells #[.slice none 0 0, .slice none 0 0] 94) = W1 := ⟨_, rfl⟩
  have HP0 : Hid (PRep W1 sz sz (.slice none 0 0) (.slice none 0 0) [] []) := Lib.hid ⟨by rw [← hW, ← hsz]; exact Blk.new w _ _, World.ownsRow_nil _ _ _ _, World.ownsRow_nil _ _ _ _, (fun k e => by cases e), Nat.le_refl _⟩
  have HBl0 : Hid (Below sz w W1) := Lib.hid (by rw [← hW, ← hsz]; exact (Below.refl _ w).alloc (Nat.le_refl _) _)
  rw [hW, hsz]
  have Hsz := Lib.hid hsz
  clear hW hsz
  have hs0 : sz ≤ W1.heap.size := by rw [← Hsz.out]; exact HBl0.out.size
  refine (matches_any HRR.out HP0.out ⟨rfl, fun i a b h => by simp at h, List.nodup_nil⟩ hs0 (fun W hW => HX.out.ext (ext_of_below (HBl0.out.trans hW) (Nat.le_of_eq Hsz.out))) (fun W hW => HY.out.ext (ext_of_below (HBl0.out.trans hW) (Nat.le_of_eq Hsz.out))) HW.out hl).mono ?_
  rintro e w2 ⟨va2, vb2, A2, B2, rfl, hp2, ⟨hs2, -⟩, hbl2⟩
  have HI : Hid (∃ va' vb' A' B', PRep w2 sz sz va' vb' A' B' ∧ PS R A' B') := Lib.hid ⟨_, _, _, _, hp2, hs2⟩
  have HBl := Lib.hid (HBl0.out.trans hbl2)
  clear hp2 hs2 hbl2 HP0 HBl0 hs0
  go_wp2_with fail
  go_loopw [10] (fun i wr => ∃ k : Nat, k ≤ xs.length ∧ i = .int .i64 k ∧ Hid (Below sz w wr) ∧ Hid (∃ va' vb' A' B', PRep wr sz sz va' vb' A' B' ∧ PS R A' B' ∧ k ≤ A'.length)) (fun i wr => xs.length - (intOf i).toNat)
  case atStart => exact ⟨0, Nat.zero_le _, rfl, HBl, Lib.hid (by obtain ⟨a, b, c, d, h1, h2⟩ := HI.out; exact ⟨a, b, c, d, h1, h2, Nat.zero_le _⟩)⟩
  case round =>
    clear HI HBl
    obtain ⟨k, hk, rfl, HBl, HI⟩ := hrel
    obtain ⟨va', vb', A', B', hP', hS', hA'⟩ := HI.out
    obtain ⟨a1, ac1, rfl⟩ := own_slice hP'.ra
    obtain ⟨b1, bc1, rfl⟩ := own_slice hP'.rb
    have hAl : A'.length ≤ xs.length := Nat.le_trans (hS'.le HRR.out) hD
    have HP := Lib.hid hP'; have HS := Lib.hid hS'
    have c0 : wr.cell? ⟨sz, 0, none⟩ = some (.slice a1 A'.length ac1) := (hP'.blk.cell 0).trans rfl
    have c1 : wr.cell? ⟨sz, 1, none⟩ = some (.slice b1 B'.length bc1) := (hP'.blk.cell 1).trans rfl
    clear HI hP' hS'
    by_cases hlt : k < A'.length
    · obtain ⟨a, ha⟩ : ∃ a, A'[k]? = some a := ⟨_, List.getElem?_eq_getElem hlt⟩
      obtain ⟨b, hb⟩ : ∃ b, B'[k]? = some b := ⟨_, List.getElem?_eq_getElem (HS.out.len ▸ hlt)⟩
      obtain ⟨z1, z2, hz1, hz2, hkd, hws⟩ := HBS.out a b (HS.out.rel k a b ha hb)
      obtain ⟨ga, gc, e, d0⟩ := HP.out.get ha
      injection e with e _ _; subst e
      obtain ⟨gb, gd, e, d1⟩ := HP.out.swap hb
      injection e with e _ _; subst e
      have hlt2 : k < B'.length := HS.out.len ▸ hlt
      have HZ1 := Lib.hid hz1; have HZ2 := Lib.hid hz2; have HWS := Lib.hid hws; have HKD := Lib.hid hkd
      have HE := Lib.hid (ext_of_below HBl.out (Nat.le_of_eq Hsz.out))
      have hBl2 : B'.length ≤ 1000000 := by rw [← HS.out.len]; omega
      clear ha hb hz1 hz2 hws hkd
      go_wp2_with fail
      refine (find_any HA.out HE.out (by omega) a HZ1.out).mono ?_
      rintro e w3 ⟨s1, sc1, rfl, hr1, hx3⟩
      have HR1 := Lib.hid hr1; have HX3 := Lib.hid hx3
      have c1' := cell_allocO (Ext.cell hx3 c1) (.cells #[.int .i64 z1.at_, .int .i64 z1.kind, .slice s1 z1.ws.length sc1] 49)
      have d1' := cell_allocO (Ext.cell hx3 d1) (.cells #[.int .i64 z1.at_, .int .i64 z1.kind, .slice s1 z1.ws.length sc1] 49)
      clear hr1 hx3 c0 c1 d0 d1
      go_wp2_with fail
      obtain ⟨s3, hs3⟩ : ∃ s3, w3.heap.size = s3 := ⟨_, rfl⟩
      obtain ⟨W4, hW4⟩ : ∃ W4, w3.alloc (.cells #[.int .i64 z1.at_, .int .i64 z1.kind, .slice s1 z1.ws.length sc1] 49) = W4 := ⟨_, rfl⟩
      have HX4 : Hid (Ext wr W4) := Lib.hid (by rw [← hW4]; exact HX3.out.alloc _)
      have HB4 : Hid (Blk W4 s3 #[.int .i64 z1.at_, .int .i64 z1.kind, .slice s1 z1.ws.length sc1] 49) := Lib.hid (by rw [← hW4, ← hs3]; exact Blk.new w3 _ _)
      rw [hW4, hs3]
      clear hW4 hs3 c1' d1' HX3
      refine (find_any HB.out (HE.out.trans HX4.out) hbl b HZ2.out).mono ?_
      rintro e w5 ⟨s2, sc2, rfl, hr2, hx5⟩
      have HR2 := Lib.hid hr2
      have HX5 := Lib.hid (HX4.out.trans hx5)
      have HB5 := Lib.hid (hx5.blk HB4.out id)
      clear hr2 hx5 HX4 HB4
      obtain ⟨W6, hW6⟩ : ∃ W6, w5.alloc (.cells #[.int .i64 z2.at_, .int .i64 z2.kind, .slice s2 z2.ws.length sc2] 49) = W6 := ⟨_, rfl⟩
      have HB6 : Hid (Blk W6 s3 #[.int .i64 z1.at_, .int .i64 z1.kind, .slice s1 z1.ws.length sc1] 49) := Lib.hid (by rw [← hW6]; exact HB5.out.alloc _)
      have HX6 : Hid (Ext wr W6) := Lib.hid (by rw [← hW6]; exact HX5.out.alloc _)
      have p1 : (w5.alloc (.cells #[.int .i64 z2.at_, .int .i64 z2.kind, .slice s2 z2.ws.length sc2] 49)).cell? ⟨s3, 1, none⟩ = some (.int .i64 z1.kind) := by rw [hW6]; exact (HB6.out.cell 1).trans rfl
      have p2 : (w5.alloc (.cells #[.int .i64 z2.at_, .int .i64 z2.kind, .slice s2 z2.ws.length sc2] 49)).cell? ⟨s3, 2, none⟩ = some (.slice s1 z1.ws.length sc1) := by rw [hW6]; exact (HB6.out.cell 2).trans rfl
      have HW6 := Lib.hid hW6
      have hkd : (z1.kind != z2.kind) = false := by rw [HKD.out]; simp
      clear hW6
      go_wp2_with fail
      rw [HW6.out]
      clear p1 p2
      have hb6 : sz ≤ W6.heap.size := by rw [← Hsz.out]; exact Nat.le_trans HE.out.size HX6.out.size
      have HE6 := Lib.hid (HE.out.trans HX6.out)
      have HBl6 := Lib.hid (HBl.out.trans (Keeps.below HX6.out (by rw [← Hsz.out]; exact HE.out.size) fun _ h => h.elim))
      refine (matches_any HRR.out (HP.out.ext HX6.out) HS.out hb6 (fun W hW => HR1.out.ext (ext_of_below (HBl6.out.trans hW) (Nat.le_of_eq Hsz.out))) (fun W hW => HR2.out.ext (ext_of_below (HBl6.out.trans hW) (Nat.le_of_eq Hsz.out))) HWS.out (HL2.out z1 (List.mem_of_find?_eq_some HZ1.out))).mono ?_
      rintro e w7 ⟨va7, vb7, A7, B7, rfl, hp7, ⟨hs7, hpre⟩, hbl7⟩
      have HI7 : Hid (∃ va' vb' A' B', PRep w7 sz sz va' vb' A' B' ∧ PS R A' B' ∧ k + 1 ≤ A'.length) := Lib.hid ⟨_, _, _, _, hp7, hs7, by
        have := hpre k (A'[k]) (List.getElem?_eq_getElem hlt)
        have := (List.getElem?_eq_some_iff.1 this).1; omega⟩
      have HBl7 := Lib.hid (HBl6.out.trans hbl7)
      clear hp7 hs7 hpre hbl7
      go_wp2_with fail
      exact ⟨⟨k + 1, by omega, by simp, HBl7, HI7⟩, by simp only [intOf]; omega⟩
    · have hkn : k = A'.length := by omega
      subst hkn
      go_wp2
      rw [← HM.out]
      exact ⟨rfl, ext_of_below HBl.out (Nat.le_of_eq Hsz.out)⟩
end Go.Proofs.Ytikigppfnhilhaa
