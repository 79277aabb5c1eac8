/- sameWords, sameBlocks. -/
import Derived.Test.YtikigppfnhilhaaLA
namespace Go.Proofs.Ytikigppfnhilhaa
open Go.RowKit Go.Instr
set_option linter.unusedVariables false
set_option linter.unusedSimpArgs false
attribute [local go_sem] Oper.semAt_some

/-- The six cells of a word of a list, at one address. -/
structure SixAt (w : World) (A : Addr) (u : Wd) : Prop where
  c0 : w.cell? A = some (.int .i64 u.tag)
  c1 : w.cell? { block := A.block, off := A.off + (0 + 1) } = some (.int .i64 u.a)
  c2 : w.cell? { block := A.block, off := A.off + (1 + 1) } = some (.int .i64 u.b)
  c3 : w.cell? { block := A.block, off := A.off + (2 + 1) } = some (.string u.text)
  c4 : w.cell? { block := A.block, off := A.off + (3 + 1) } = some (.int .i64 u.man)
  c5 : w.cell? { block := A.block, off := A.off + (4 + 1) } = some (.int .i64 u.exp)
theorem RdW.six {w : World} {ad : Addr} {n c : Nat} {ws : List Wd} (h : RdW w (.slice (some ad) n c) ws) {k : Nat} {u : Wd} (hu : ws[k]? = some u) {A : Addr} (hA : ad.add (k * 6) = A) : SixAt w A u := by
  have c0 : w.cell? (A.add 0) = some (.int .i64 u.tag) := by rw [← hA]; exact (h.word hu 0 (by omega)).trans rfl
  have c1 : w.cell? (A.add (0 + 1)) = some (.int .i64 u.a) := by rw [← hA]; exact (h.word hu 1 (by omega)).trans rfl
  have c2 : w.cell? (A.add (1 + 1)) = some (.int .i64 u.b) := by rw [← hA]; exact (h.word hu 2 (by omega)).trans rfl
  have c3 : w.cell? (A.add (2 + 1)) = some (.string u.text) := by rw [← hA]; exact (h.word hu 3 (by omega)).trans rfl
  have c4 : w.cell? (A.add (3 + 1)) = some (.int .i64 u.man) := by rw [← hA]; exact (h.word hu 4 (by omega)).trans rfl
  have c5 : w.cell? (A.add (4 + 1)) = some (.int .i64 u.exp) := by rw [← hA]; exact (h.word hu 5 (by omega)).trans rfl
  rw [Addr.add_zero'] at c0
  rw [Addr.add_succ'] at c1 c2 c3 c4 c5
  exact ⟨c0, c1, c2, c3, c4, c5⟩
theorem take_eq_step {α : Type} [DecidableEq α] {us vs : List α} {k : Nat} {u v : α} (hu : us[k]? = some u) (hv : vs[k]? = some v) (h : us.take k = vs.take k) (e : u = v) : us.take (k + 1) = vs.take (k + 1) := by
  rw [List.take_add_one, List.take_add_one, h, hu, hv, e]

set_option maxRecDepth 100000 in
set_option maxHeartbeats 2000000 in
theorem sameWords_any {w : World} {a b : Value} {us vs : List Wd} (ha : RdW w a us) (hb : RdW w b vs) (hl : us.length ≤ 2000000) (hl' : vs.length ≤ 2000000) :
    Calls Try.prog 25 #[a, b] w fun e w' => e = .returned (.bool (decide (us = vs))) ∧ Ext w w' := by
  have Ha := Lib.hid ha; have Hb := Lib.hid hb
  obtain ⟨aa, ac, rfl, ha1, -⟩ := ha
  obtain ⟨ba, bc, rfl, hb1, -⟩ := hb
  by_cases hlen : us.length = vs.length
  · have HL := Lib.hid hlen
    rw [← hlen] at Hb
    clear hlen hl'
    have Ha1 := Lib.hid ha1; have Hb1 := Lib.hid hb1
    clear ha1 hb1
    rw [← HL.out]
    go_enter Try.func25, Try.ntmps25
    go_wp2
    go_loopw [5] (fun i wr => ∃ k : Nat, k ≤ us.length ∧ i = .int .i64 k ∧ Hid (Ext w wr) ∧ Hid (us.take k = vs.take k)) (fun i wr => us.length - (intOf i).toNat)
    case atStart => exact ⟨0, Nat.zero_le _, rfl, Ext.refl _, by simp [Hid]⟩
    case round =>
      obtain ⟨k, hk, rfl, HX, HT⟩ := hrel
      by_cases hlt : k < us.length
      · obtain ⟨u, hu⟩ : ∃ u, us[k]? = some u := ⟨_, List.getElem?_eq_getElem hlt⟩
        obtain ⟨v, hv⟩ : ∃ v, vs[k]? = some v := ⟨_, List.getElem?_eq_getElem (by rw [← HL.out]; exact hlt)⟩
        cases aa with
        | none => rw [Ha1.out rfl] at hlt; simp at hlt
        | some ad =>
        cases ba with
        | none => rw [Hb1.out rfl] at hv; simp at hv
        | some bd =>
        obtain ⟨A, hA⟩ : ∃ A, ad.add (k * 6) = A := ⟨_, rfl⟩
        obtain ⟨B, hB⟩ : ∃ B, bd.add (k * 6) = B := ⟨_, rfl⟩
        obtain ⟨a0, a1, a2, a3, a4, a5⟩ := (Ha.out.ext HX.out).six hu hA
        obtain ⟨b0, b1, b2, b3, b4, b5⟩ := (Hb.out.ext HX.out).six hv hB
        have Hu := Lib.hid hu; have Hv := Lib.hid hv
        clear hu hv
        have hne := run_neqW u v
        unfold Wd.val Wd.cells at hne
        go_wp2
        go_region
        clear a0 a1 a2 a3 a4 a5 b0 b1 b2 b3 b4 b5 hne hA hB
        by_cases e : u = v
        · rw [decide_eq_true e]
          have E := Lib.hid e
          clear e
          go_wp2
          go_roundw
          case rel => exact ⟨k + 1, by omega, by go_num, Lib.hid HX.out.drew, Lib.hid (take_eq_step Hu.out Hv.out HT.out E.out)⟩
          case measure => simp [intOf]; omega
        · rw [decide_eq_false e]
          have E := Lib.hid e
          clear e
          go_wp2
          go_ret
          refine ⟨?_, HX.out.drew⟩
          rw [decide_eq_false]; rfl
          rintro rfl
          have := Hu.out; rw [Hv.out] at this; injection this with this; exact E.out this.symm
      · have hkn : k = us.length := by omega
        subst hkn
        have hvl : vs.take us.length = vs := by rw [HL.out, List.take_length]
        have Huv : Hid (us = vs) := Lib.hid (by have := HT.out; rw [List.take_length, hvl] at this; exact this)
        clear hvl
        go_wp2
        go_ret
        exact ⟨by rw [decide_eq_true Huv.out]; rfl, HX.out⟩
  · have hne : us ≠ vs := fun e => hlen (by rw [e])
    have Hne := Lib.hid hne
    clear hne ha1 hb1
    go_enter Try.func25, Try.ntmps25
    go_wp2
    go_ret
    exact ⟨by rw [decide_eq_false Hne.out]; rfl, Ext.refl _⟩

end Go.Proofs.Ytikigppfnhilhaa
