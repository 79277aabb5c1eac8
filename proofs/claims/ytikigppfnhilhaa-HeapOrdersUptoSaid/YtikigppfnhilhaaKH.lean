/- dense: blocks lie without gaps. -/
import Derived.Test.YtikigppfnhilhaaLK
namespace Go.Proofs.Ytikigppfnhilhaa
open Go.RowKit Go.Instr
set_option linter.unusedVariables false
set_option linter.unusedSimpArgs false
attribute [local go_sem] Oper.semAt_some

theorem dense_get {f : Int} {l : List Bk} (h : Dense f l) {k : Nat} {b : Bk} (hb : l[k]? = some b) : b.at_ = f + bused (l.take k) := by
  induction l generalizing f k with
  | nil => simp at hb
  | cons c l ih =>
    cases k with
    | zero => simp at hb; subst hb; simp [bused, h.1]
    | succ k =>
      simp at hb
      have := ih h.2 hb
      rw [this]; simp [bused]; omega
theorem bused_take_succ {l : List Bk} {k : Nat} {b : Bk} (hb : l[k]? = some b) : bused (l.take (k + 1)) = bused (l.take k) + (b.ws.length + 1) := by
  rw [List.take_add_one, hb]
  induction (l.take k) with
  | nil => simp [bused]
  | cons c l ih => simp [bused] at ih ⊢; omega

theorem bused_take_le (k : Nat) (l : List Bk) : bused (l.take k) ≤ bused l := by
  have h1 : bused l = bused (l.take k) + bused (l.drop k) := by rw [← bused_append, List.take_append_drop]
  have := bused_nonneg (l.drop k); omega
def TrueRd (w : World) (e : Ending) (w' : World) : Prop := e = .returned (.bool true) ∧ Ext w w'
set_option maxRecDepth 100000 in
set_option maxHeartbeats 8000000 in
theorem dense_any {W0 w : World} {hp : Nat} {y o : Int} {x : PH} (h : Heap W0 w hp y o x) :
    Calls Try.prog 21 #[.pointer (some ⟨hp, 0, none⟩), .int .i64 y, .int .i64 o] w (TrueRd w) := by
  have H := Lib.hid h
  have ok := h.rep.ok
  have hY : y = x.Y := h.Y.symm
  have hO : o = x.O := h.O.symm
  have y0 : 0 ≤ y := by rw [hY]; exact ok.Y0
  have y1 : y ≤ 100000 := by rw [hY]; exact ok.Y1
  have o0 : 0 ≤ o := by rw [hO]; exact ok.O0
  have o1 : o ≤ 100000 := by rw [hO]; exact ok.O1
  obtain ⟨Yb, hYb⟩ : ∃ Yb, x.log.yb = Yb := ⟨_, rfl⟩
  obtain ⟨Ob, hOb⟩ : ∃ Ob, x.log.ob = Ob := ⟨_, rfl⟩
  have hL : x.log.all = Yb ++ Ob := by rw [← hYb, ← hOb]; rfl
  have dy : Dense 1 Yb := by rw [← hYb]; exact ok.lok.dy
  have do_ : Dense (y + 1) Ob := by rw [← hOb, hY]; exact ok.lok.do_
  have uy : bused Yb ≤ y := by rw [← hYb, hY]; exact ok.lok.uy
  have uo : bused Ob ≤ o := by rw [← hOb, hO]; exact ok.lok.uo
  have hYl : (Yb.length : Int) ≤ bused Yb := bused_len _
  have hOl : (Ob.length : Int) ≤ bused Ob := bused_len _
  have Hf := Lib.hid h.free
  rw [hYb, hOb] at Hf
  have HL := Lib.hid hL; have Hdy := Lib.hid dy; have Hdo := Lib.hid do_
  have Hby : Hid (∀ k, bused (Yb.take k) ≤ bused Yb ∧ 0 ≤ bused (Yb.take k)) := Lib.hid fun k => ⟨bused_take_le k Yb, bused_nonneg _⟩
  have Hbo : Hid (∀ k, bused (Ob.take k) ≤ bused Ob ∧ 0 ≤ bused (Ob.take k)) := Lib.hid fun k => ⟨bused_take_le k Ob, bused_nonneg _⟩
  generalize hM : TrueRd w = M
  have HM := Lib.hid hM
  clear h ok hY hO hYb hOb hL dy do_ hM
  go_enter Try.func21, Try.ntmps21
  go_wp2_with fail
  refine Hf.out.mono ?_
  rintro e w1 ⟨rfl, hx1⟩
  have H1 := Lib.hid (H.out.later hx1); have HX1 := Lib.hid hx1
  clear hx1 Hf
  have HCb := Lib.hid H1.out.blocks
  go_wp2_with fail
  refine HCb.out.mono ?_
  rintro e w2 ⟨ba, bc, vs, rfl, hob, hx2⟩
  have HO := Lib.hid (rdB_of_own hob)
  have HX2 := Lib.hid (HX1.out.trans hx2)
  have hlen : x.log.all.length = Yb.length + Ob.length := by rw [HL.out, List.length_append]
  rw [HL.out] at HO
  have HB : Hid (RdB w2 (.slice ba (Yb.length + Ob.length) bc) (Yb ++ Ob)) := Lib.hid (by have := HO.out; rwa [List.length_append] at this)
  rw [hlen]
  clear hob hx2 HCb H1 H HO hlen
  go_wp2_with fail
  go_loopw [10, 11] (fun nx i wr => ∃ k : Nat, k ≤ Yb.length ∧ i = .int .i64 k ∧ nx = .int .i64 (1 + bused (Yb.take k)) ∧ wr = w2) (fun nx i wr => Yb.length - (intOf i).toNat)
  case atStart => exact ⟨0, Nat.zero_le _, rfl, by simp [bused], rfl⟩
  case round =>
    obtain ⟨k, hk, rfl, rfl, rfl⟩ := hrel
    by_cases hlt : k < Yb.length
    · obtain ⟨b, hb⟩ : ∃ b, Yb[k]? = some b := ⟨_, List.getElem?_eq_getElem hlt⟩
      have hb' : (Yb ++ Ob)[k]? = some b := by rw [List.getElem?_append_left hlt]; exact hb
      have hat := dense_get Hdy.out hb
      have hle := (Hdy.out.mem (List.mem_of_getElem? hb)).2
      have hsucc := bused_take_succ hb
      obtain ⟨ad, rfl⟩ := HB.out.some (by rintro e; rw [e] at hb'; simp at hb')
      obtain ⟨A, hA⟩ : ∃ A, ad.add (k * 3) = A := ⟨_, rfl⟩
      obtain ⟨su, a0, a1, a2, hsu⟩ := HB.out.at_ hb' hA
      obtain ⟨sa, sc, rfl, -⟩ := hsu
      have hby := Hby.out k
      have hby2 := Hby.out (k + 1)
      have hwl : b.ws.length ≤ 100000 := by omega
      have hat2 : (b.at_ ≤ y) := by omega
      rw [hat] at a0 hat2
      clear hb hb' hle
      go_wp2_with fail
      exact ⟨⟨k + 1, by omega, by simp, by rw [hsucc]; congr 1; omega, trivial⟩, by simp only [intOf]; omega⟩
    · have hkn : k = Yb.length := by omega
      subst hkn
      rw [List.take_length]
      have hne : (1 + bused Yb + (y - bused Yb) != y + 1) = false := by simp; omega
      have hb0 := bused_nonneg Yb
      by_cases hO : Ob = []
      · have hOl0 : Ob.length = 0 := by rw [hO]; rfl
        clear hO
        go_wp2_with fail
        go_loopw [10, 11] (fun nx i wr2 => ∃ k : Nat, k ≤ Ob.length ∧ i = .int .i64 ((Yb.length : Int) + k) ∧ nx = .int .i64 (y + 1 + bused (Ob.take k)) ∧ wr2 = wr) (fun nx i wr2 => Yb.length + Ob.length - (intOf i).toNat)
        case atStart => exact ⟨0, Nat.zero_le _, by simp, by simp [bused], rfl⟩
        case round =>
          obtain ⟨k, hk, rfl, rfl, rfl⟩ := hrel
          by_cases hlt : k < Ob.length
          · exact absurd hlt (by omega)
          · have hkn : k = Ob.length := by omega
            subst hkn
            rw [List.take_length]
            have heq : (y + 1 + bused Ob + (o - bused Ob) == y + o + 1) = true := by simp; omega
            have hbO := bused_nonneg Ob
            go_wp2_with fail
            rw [← HM.out]
            exact ⟨rfl, HX2.out⟩
      · obtain ⟨b, hb⟩ : ∃ b, Ob[0]? = some b := ⟨_, List.getElem?_eq_getElem (List.length_pos_iff.2 hO)⟩
        have hOl1 : 0 < Ob.length := List.length_pos_iff.2 hO
        have hb' : (Yb ++ Ob)[Yb.length]? = some b := by rw [List.getElem?_append_right (Nat.le_refl _), Nat.sub_self]; exact hb
        have hat := dense_get Hdo.out hb
        rw [List.take_zero, show bused [] = 0 from rfl, Int.add_zero] at hat
        obtain ⟨ad, rfl⟩ := HB.out.some (by rintro e; rw [e] at hb'; simp at hb')
        obtain ⟨A, hA⟩ : ∃ A, ad.add (Yb.length * 3) = A := ⟨_, rfl⟩
        obtain ⟨su, a0, a1, a2, hsu⟩ := HB.out.at_ hb' hA
        rw [hat] at a0
        clear hb hb' hO hat hsu a1 a2
        go_wp2_with fail
        clear a0 hA
        go_loopw [10, 11] (fun nx i wr2 => ∃ k : Nat, k ≤ Ob.length ∧ i = .int .i64 ((Yb.length : Int) + k) ∧ nx = .int .i64 (y + 1 + bused (Ob.take k)) ∧ wr2 = wr) (fun nx i wr2 => Yb.length + Ob.length - (intOf i).toNat)
        case atStart => exact ⟨0, Nat.zero_le _, by simp, by simp [bused], rfl⟩
        case round =>
          obtain ⟨k, hk, rfl, rfl, rfl⟩ := hrel
          by_cases hlt : k < Ob.length
          · obtain ⟨b, hb⟩ : ∃ b, Ob[k]? = some b := ⟨_, List.getElem?_eq_getElem hlt⟩
            have hb' : (Yb ++ Ob)[Yb.length + k]? = some b := by rw [List.getElem?_append_right (Nat.le_add_right _ _), Nat.add_sub_cancel_left]; exact hb
            have hat := dense_get Hdo.out hb
            have hle := (Hdo.out.mem (List.mem_of_getElem? hb)).2
            have hsucc := bused_take_succ hb
            obtain ⟨A, hA⟩ : ∃ A, ad.add ((Yb.length + k) * 3) = A := ⟨_, rfl⟩
            obtain ⟨su, a0, a1, a2, hsu⟩ := HB.out.at_ hb' hA
            obtain ⟨sa, sc, rfl, -⟩ := hsu
            have hbo := Hbo.out k
            have hbo2 := Hbo.out (k + 1)
            have hwl : b.ws.length ≤ 100000 := by omega
            rw [hat] at a0
            have hcast : ((Yb.length : Int) + (k : Int)) = ((Yb.length + k : Nat) : Int) := by omega
            rw [hcast]
            have hcond : (((Yb.length + k : Nat) : Int) < (Yb.length : Int) + (Ob.length : Int)) := by omega
            generalize hKK : Yb.length + k = KK at hcast hcond hb' hA ⊢
            clear hb hb' hle
            go_wp2_with fail
            exact ⟨⟨k + 1, by omega, by congr 1; omega, by rw [hsucc]; congr 1; omega, trivial⟩, by simp only [intOf]; omega⟩
          · have hkn : k = Ob.length := by omega
            subst hkn
            rw [List.take_length]
            have heq : (y + 1 + bused Ob + (o - bused Ob) == y + o + 1) = true := by simp; omega
            have hbO := bused_nonneg Ob
            go_wp2_with fail
            rw [← HM.out]
            exact ⟨rfl, HX2.out⟩
end Go.Proofs.Ytikigppfnhilhaa
