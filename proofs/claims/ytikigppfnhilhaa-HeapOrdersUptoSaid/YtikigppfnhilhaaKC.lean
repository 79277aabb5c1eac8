/- pairs.matches: two lists of words that correspond. -/
import Derived.Test.YtikigppfnhilhaaKB
namespace Go.Proofs.Ytikigppfnhilhaa
open Go.RowKit Go.Instr
set_option linter.unusedVariables false
set_option linter.unusedSimpArgs false
attribute [local go_sem] Oper.semAt_some

theorem nodup_lenI {a b : List Int} (hn : a.Nodup) (hs : ∀ k ∈ a, k ∈ b) : a.length ≤ b.length := by
  induction a generalizing b with
  | nil => exact Nat.zero_le _
  | cons x a ih =>
    obtain ⟨h1, h2⟩ := List.nodup_cons.1 hn
    have hx := hs x (.head _)
    have := ih (b := b.erase x) h2 fun k hk => (List.mem_erase_of_ne (by rintro rfl; exact h1 hk)).2 (hs k (.tail _ hk))
    rw [List.length_erase_of_mem hx] at this
    have := List.length_pos_of_mem hx
    simp; omega

/-- Two words correspond. -/
def WR (R : Int → Int → Prop) (u v : Wd) : Prop := (refW u = 0 ∧ v = u) ∨ (refW u ≠ 0 ∧ refW v ≠ 0 ∧ v = { u with a := v.a } ∧ R u.a v.a)
/-- Two lists of words correspond. -/
def WsR (R : Int → Int → Prop) (us vs : List Wd) : Prop := us.length = vs.length ∧ ∀ (k : Nat) (u v : Wd), us[k]? = some u → vs[k]? = some v → WR R u v
structure Rel2 (R : Int → Int → Prop) (D : List Int) : Prop where
  fn : ∀ a b a' b', R a b → R a' b' → (a' = a ↔ b' = b)
  dom : ∀ a b, R a b → a ∈ D
  few : D.length ≤ 900000
structure PS (R : Int → Int → Prop) (A B : List Int) : Prop where
  len : A.length = B.length
  rel : ∀ (i : Nat) (a b : Int), A[i]? = some a → B[i]? = some b → R a b
  nodup : A.Nodup
theorem PS.le {R : Int → Int → Prop} {D : List Int} (hR : Rel2 R D) {A B : List Int} (h : PS R A B) : A.length ≤ D.length := by
  refine nodup_lenI h.nodup fun k hk => ?_
  obtain ⟨i, hi⟩ := List.getElem?_of_mem hk
  have hl : i < B.length := h.len ▸ (List.getElem?_eq_some_iff.1 hi).1
  exact hR.dom _ _ (h.rel i k _ hi (List.getElem?_eq_getElem hl))
theorem PS.fits {R : Int → Int → Prop} {D : List Int} (hR : Rel2 R D) {A B : List Int} (h : PS R A B) {u v : Wd} (hw : WR R u v) : Fits A B u v := by
  rcases hw with hw | ⟨h1, h2, h3, h4⟩
  · exact .inl hw
  · exact .inr ⟨h1, h2, h3, fun i a b ha hb => hR.fn _ _ _ _ h4 (h.rel i a b ha hb)⟩
theorem PS.add {R : Int → Int → Prop} {D : List Int} (hR : Rel2 R D) {A B : List Int} (h : PS R A B) {u v : Wd} (hw : WR R u v) : PS R (addA A u) (addB A B u v) ∧ (∀ (i : Nat) (a : Int), A[i]? = some a → (addA A u)[i]? = some a) := by
  unfold addA addB
  by_cases hc : refW u = 0 ∨ u.a ∈ A
  · rw [if_pos hc, if_pos hc]; exact ⟨h, fun _ _ h => h⟩
  · rw [if_neg hc, if_neg hc]
    have hn : u.a ∉ A := fun e => hc (.inr e)
    have hr : R u.a v.a := by
      rcases hw with hw | hw
      · exact (hc (.inl hw.1)).elim
      · exact hw.2.2.2
    refine ⟨⟨by simp [h.len], fun i a b ha hb => ?_, ?_⟩, fun i a ha => by rw [List.getElem?_append_left (List.getElem?_eq_some_iff.1 ha).1]; exact ha⟩
    · rcases Nat.lt_trichotomy i A.length with hi | hi | hi
      · rw [List.getElem?_append_left hi] at ha
        rw [List.getElem?_append_left (h.len ▸ hi)] at hb
        exact h.rel i a b ha hb
      · subst hi
        rw [List.getElem?_append_right (Nat.le_refl _)] at ha
        rw [h.len, List.getElem?_append_right (Nat.le_refl _)] at hb
        simp at ha hb
        rw [← ha, ← hb]; exact hr
      · rw [List.getElem?_eq_none (by simp; omega)] at ha; cases ha
    · rw [List.nodup_append]
      exact ⟨h.nodup, by simp, fun a ha b hb e => by simp at hb; subst hb; subst e; exact hn ha⟩

def MatchesR (R : Int → Int → Prop) (w : World) (base bp : Nat) (A : List Int) (e : Ending) (w' : World) : Prop :=
  ∃ va' vb' A' B', e = .returned (.bool true) ∧ PRep w' base bp va' vb' A' B' ∧ (PS R A' B' ∧ ∀ (i : Nat) (a : Int), A[i]? = some a → A'[i]? = some a) ∧ Below base w w'

set_option maxRecDepth 100000 in
set_option maxHeartbeats 16000000 in
theorem matches_any {R : Int → Int → Prop} {D : List Int} (hR : Rel2 R D) {w : World} {base bp : Nat} {va vb : Value} {A B : List Int} (h : PRep w base bp va vb A B) (hs : PS R A B) (hbase : base ≤ w.heap.size)
    {x y : Value} {us vs : List Wd} (hx : ∀ W, Below base w W → RdW W x us) (hy : ∀ W, Below base w W → RdW W y vs) (hw : WsR R us vs) (hl : us.length ≤ 2000000) :
    Calls Try.prog 39 #[.pointer (some ⟨bp, 0, none⟩), x, y] w (MatchesR R w base bp A) := by
  have HP := Lib.hid h; have HS := Lib.hid hs; have HB := Lib.hid hbase; have HX := Lib.hid hx; have HY := Lib.hid hy; have HW := Lib.hid hw; have HRR := Lib.hid hR
  obtain ⟨xa, xc, rfl, hx1, -⟩ := hx w (Below.refl _ _)
  obtain ⟨ya, yc, rfl, hy1, -⟩ := hy w (Below.refl _ _)
  have hlen := hw.1
  rw [← hlen] at HY ⊢
  have Hx1 := Lib.hid hx1; have Hy1 := Lib.hid hy1; have HLn := Lib.hid hlen
  generalize hM : MatchesR R w base bp A = M
  have HM := Lib.hid hM
  clear h hs hbase hx hy hw hR hx1 hy1 hlen hM
  go_enter Try.func39, Try.ntmps39
  go_wp2_with fail
  go_loopw [7] (fun i wr => ∃ k : Nat, k ≤ us.length ∧ i = .int .i64 k ∧ Hid (Below base w wr) ∧ Hid (∃ va' vb' A' B', PRep wr base bp va' vb' A' B' ∧ PS R A' B' ∧ ∀ (i : Nat) (a : Int), A[i]? = some a → A'[i]? = some a)) (fun i wr => us.length - (intOf i).toNat)
  case atStart => exact ⟨0, Nat.zero_le _, rfl, Lib.hid (Below.refl _ _), Lib.hid ⟨va, vb, A, B, HP.out, HS.out, fun _ _ h => h⟩⟩
  case round =>
    clear HP HS
    obtain ⟨k, hk, rfl, HBl, HI⟩ := hrel
    obtain ⟨va', vb', A', B', hP', hS', hA'⟩ := HI.out
    have HP := Lib.hid hP'; have HS := Lib.hid hS'; have HA := Lib.hid hA'
    clear HI hP' hS' hA'
    by_cases hlt : k < us.length
    · obtain ⟨u, hu⟩ : ∃ u, us[k]? = some u := ⟨_, List.getElem?_eq_getElem hlt⟩
      obtain ⟨v, hv⟩ : ∃ v, vs[k]? = some v := ⟨_, List.getElem?_eq_getElem (HLn.out ▸ hlt)⟩
      cases xa with
      | none => rw [Hx1.out rfl] at hlt; simp at hlt
      | some xd =>
      cases ya with
      | none => have := Hy1.out rfl; have := HLn.out; simp_all
      | some yd =>
      obtain ⟨X, hX⟩ : ∃ X, xd.add (k * 6) = X := ⟨_, rfl⟩
      obtain ⟨Y, hY⟩ : ∃ Y, yd.add (k * 6) = Y := ⟨_, rfl⟩
      have hwr := HW.out.2 k u v hu hv
      have hdr : Below base w wr.drew := HBl.out.drew
      have hsx : SixAt wr.drew X u := (HX.out _ hdr).six hu hX
      have hsy : SixAt wr.drew Y v := RdW.six (n := us.length) (c := yc) (HY.out _ hdr) hv hY
      have HSX := Lib.hid hsx; have HSY := Lib.hid hsy; have HWR := Lib.hid hwr
      have HBl1 := Lib.hid hdr
      have HP1 := Lib.hid (HP.out.ext (Ext.refl _).drew)
      have Hu := Lib.hid hu; have Hv := Lib.hid hv
      clear hu hv hsx hsy hwr hdr
      go_wp2_with fail
      have HT : Hid (SixAt wr.drew X u ∧ SixAt wr.drew Y v) := Lib.hid ⟨HSX.out, HSY.out⟩
      clear HSX HSY HBl HP
      refine region_S_plain (n := 3) (fun V => SixAt V X u ∧ SixAt V Y v) 14 (by kernel_rfl) ?_
      generalize wr.drew = w0 at HT HP1 HBl1 ⊢
      refine anyS_quiet (a2 := ?a0) 0 rfl rfl rfl (by kernel_rfl) (by kernel_rfl) (by kernel_rfl) (by kernel_rfl) (by kernel_rfl) (by kernel_rfl) (fun _ _ _ _ h => h) HT.out ?h0 ?k0
      case h0 => intro W hW K hK; obtain ⟨⟨a0, a1, a2, a3, a4, a5⟩, b0, b1, b2, b3, b4, b5⟩ := hW; go_simp; exact hK
      refine anyS_quiet (a2 := ?a1) 1 rfl rfl rfl (by kernel_rfl) (by kernel_rfl) (by kernel_rfl) (by kernel_rfl) (by kernel_rfl) (by kernel_rfl) (fun _ _ _ _ h => h) HT.out ?h1 ?k1
      case h1 => intro W hW K hK; obtain ⟨⟨a0, a1, a2, a3, a4, a5⟩, b0, b1, b2, b3, b4, b5⟩ := hW; go_simp; exact hK
      refine anyS_quiet (a2 := ?a2) 2 rfl rfl rfl (by kernel_rfl) (by kernel_rfl) (by kernel_rfl) (by kernel_rfl) (by kernel_rfl) (by kernel_rfl) (fun _ _ _ _ h => h) HT.out ?h2 ?k2
      case h2 => intro W hW K hK; obtain ⟨⟨a0, a1, a2, a3, a4, a5⟩, b0, b1, b2, b3, b4, b5⟩ := hW; go_simp; exact hK
      refine anyS_quiet (a2 := ?a3) 3 rfl rfl rfl (by kernel_rfl) (by kernel_rfl) (by kernel_rfl) (by kernel_rfl) (by kernel_rfl) (by kernel_rfl) (fun _ _ _ _ h => h) HT.out ?h3 ?k3
      case h3 => intro W hW K hK; obtain ⟨⟨a0, a1, a2, a3, a4, a5⟩, b0, b1, b2, b3, b4, b5⟩ := hW; go_simp; exact hK
      refine anyS_quiet (a2 := ?a4) 4 rfl rfl rfl (by kernel_rfl) (by kernel_rfl) (by kernel_rfl) (by kernel_rfl) (by kernel_rfl) (by kernel_rfl) (fun _ _ _ _ h => h) HT.out ?h4 ?k4
      case h4 => intro W hW K hK; obtain ⟨⟨a0, a1, a2, a3, a4, a5⟩, b0, b1, b2, b3, b4, b5⟩ := hW; go_simp; exact hK
      refine anyS_quiet (a2 := ?a5) 5 rfl rfl rfl (by kernel_rfl) (by kernel_rfl) (by kernel_rfl) (by kernel_rfl) (by kernel_rfl) (by kernel_rfl) (fun _ _ _ _ h => h) HT.out ?h5 ?k5
      case h5 => intro W hW K hK; obtain ⟨⟨a0, a1, a2, a3, a4, a5⟩, b0, b1, b2, b3, b4, b5⟩ := hW; go_simp; exact hK
      refine anyS_quiet (a2 := ?a6) 6 rfl rfl rfl (by kernel_rfl) (by kernel_rfl) (by kernel_rfl) (by kernel_rfl) (by kernel_rfl) (by kernel_rfl) (fun _ _ _ _ h => h) HT.out ?h6 ?k6
      case h6 => intro W hW K hK; obtain ⟨⟨a0, a1, a2, a3, a4, a5⟩, b0, b1, b2, b3, b4, b5⟩ := hW; go_simp; exact hK
      refine anyS_quiet (a2 := ?a7) 7 rfl rfl rfl (by kernel_rfl) (by kernel_rfl) (by kernel_rfl) (by kernel_rfl) (by kernel_rfl) (by kernel_rfl) (fun _ _ _ _ h => h) HT.out ?h7 ?k7
      case h7 => intro W hW K hK; obtain ⟨⟨a0, a1, a2, a3, a4, a5⟩, b0, b1, b2, b3, b4, b5⟩ := hW; go_simp; exact hK
      refine anyS_quiet (a2 := ?a8) 8 rfl rfl rfl (by kernel_rfl) (by kernel_rfl) (by kernel_rfl) (by kernel_rfl) (by kernel_rfl) (by kernel_rfl) (fun _ _ _ _ h => h) HT.out ?h8 ?k8
      case h8 => intro W hW K hK; obtain ⟨⟨a0, a1, a2, a3, a4, a5⟩, b0, b1, b2, b3, b4, b5⟩ := hW; go_simp; exact hK
      refine anyS_only 9 rfl (by kernel_rfl) ?_
      gi_wp2_with fail
      refine (callsIn_WF (match_any HP1.out HS.out.len (Nat.le_trans (HS.out.le HRR.out) (Nat.le_trans HRR.out.few (by omega))) (Nat.le_trans HB.out HBl1.out.size) u v (HS.out.fits HRR.out HWR.out))).mono ?_
      rintro e w1 ⟨n, va2, vb2, rfl, hp2, hbl2⟩
      have HBl2 := Lib.hid (HBl1.out.trans hbl2)
      have HP2 := Lib.hid hp2
      have HS2 := Lib.hid (HS.out.add HRR.out HWR.out)
      have HT2 : Hid (SixAt w1 X u ∧ SixAt w1 Y v) := Lib.hid ⟨(HX.out _ HBl2.out).six Hu.out hX, RdW.six (n := us.length) (c := yc) (HY.out _ HBl2.out) Hv.out hY⟩
      clear hp2 hbl2 HT HBl1 HP1 hX hY
      gi_wp2
      refine And.intro (.inr HT2.out) ?_
      refine anyS_only 10 rfl (by kernel_rfl) ?_
      gi_wp2
      refine And.intro (.inr HT2.out) ?_
      refine anyS_quiet (a2 := ?ab_11) 11 rfl rfl rfl (by kernel_rfl) (by kernel_rfl) (by kernel_rfl) (by kernel_rfl) (by kernel_rfl) (by kernel_rfl) (fun _ _ _ _ h => h) HT2.out ?hb_11 ?kb_11
      case hb_11 => intro W hW K hK; go_simp; exact hK
      refine anyS_quiet (a2 := ?ab_12) 12 rfl rfl rfl (by kernel_rfl) (by kernel_rfl) (by kernel_rfl) (by kernel_rfl) (by kernel_rfl) (by kernel_rfl) (fun _ _ _ _ h => h) HT2.out ?hb_12 ?kb_12
      case hb_12 => intro W hW K hK; go_simp; exact hK
      refine anyS_only 13 rfl (by kernel_rfl) ?_
      gi_wp2
      refine And.intro (.inr HT2.out) ?_
      refine anyS_only 14 rfl (by kernel_rfl) ?_
      gi_wp2
      refine anyS_done (by kernel_rfl) ?_ _
      go_wp2_with fail
      refine ⟨⟨k + 1, by omega, by simp, HBl2, Lib.hid ⟨_, _, _, _, HP2.out, HS2.out.1, fun i a ha => HS2.out.2 i a (HA.out i a ha)⟩⟩, by simp only [intOf]; omega⟩
    · have hkn : k = us.length := by omega
      subst hkn
      go_wp2
      rw [← HM.out]
      exact ⟨va', vb', A', B', rfl, HP.out, ⟨HS.out, HA.out⟩, HBl.out⟩
end Go.Proofs.Ytikigppfnhilhaa
