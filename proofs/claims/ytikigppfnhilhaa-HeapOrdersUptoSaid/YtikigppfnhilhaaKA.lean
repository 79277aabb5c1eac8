/- find; addresses that correspond. -/
import Derived.Test.YtikigppfnhilhaaLK
import Derived.Laws.ResultCell
namespace Go.Proofs.Ytikigppfnhilhaa
open Go.RowKit Go.Instr
set_option linter.unusedVariables false
set_option linter.unusedSimpArgs false

set_option maxRecDepth 100000 in
set_option maxHeartbeats 4000000 in
theorem find_any {w0 w : World} {v : Value} {bs : List Bk} (h : RdB w0 v bs) (hx0 : Ext w0 w) (hl : bs.length ≤ 1000000) (a : Int) {b : Bk} (hf : bs.find? (fun b => b.at_ = a) = some b) :
    Calls Try.prog 24 #[v, .int .i64 a] w fun e w' => ∃ s c, e = .returned (.tuple #[.agg #[.int .i64 b.at_, .int .i64 b.kind, .slice s b.ws.length c], .bool true]) ∧ RdW w0 (.slice s b.ws.length c) b.ws ∧ Ext w w' := by
  have HR := Lib.hid h; have HX0 := Lib.hid hx0
  clear hx0
  have Hf := Lib.hid hf
  have hn : bs ≠ [] := by rintro rfl; simp at hf
  obtain ⟨va, vc, rfl, -⟩ := h
  obtain ⟨ad, rfl⟩ := HR.out.some hn
  clear hf hn
  go_enter Try.func24, Try.ntmps24
  go_wp2_with fail
  obtain ⟨bx, hbx⟩ : ∃ bx, w.heap.size = bx := ⟨_, rfl⟩
  have HB0 : Hid (Blk (w.alloc (.cells #[.int .i64 0, .int .i64 0, .slice none 0 0] 49)) bx #[.int .i64 0, .int .i64 0, .slice none 0 0] 49) := Lib.hid (by rw [← hbx]; exact Blk.new w _ _)
  rw [hbx]
  have Hbx := Lib.hid hbx
  clear hbx
  go_loopw [6] (fun c wr => ∃ k : Nat, k ≤ bs.length ∧ c = .int .i64 k ∧ Hid (Ext w wr) ∧ Hid (∀ b ∈ bs.take k, b.at_ ≠ a) ∧ Hid (Blk wr bx #[.int .i64 0, .int .i64 0, .slice none 0 0] 49)) (fun c wr => bs.length - (intOf c).toNat)
  case atStart => exact ⟨0, Nat.zero_le _, rfl, Lib.hid ((Ext.refl w).alloc _), Lib.hid (fun b hb => by simp at hb), HB0⟩
  case round =>
    clear HB0
    obtain ⟨k, hk, rfl, HX, HT, HB⟩ := hrel
    by_cases hlt : k < bs.length
    · obtain ⟨b', hb'⟩ : ∃ b', bs[k]? = some b' := ⟨_, List.getElem?_eq_getElem hlt⟩
      obtain ⟨A, hA⟩ : ∃ A, ad.add (k * 3) = A := ⟨_, rfl⟩
      obtain ⟨su, c0, c1, c2, hsu⟩ := HR.out.at_ hb' hA
      have a0 := Ext.cell (HX0.out.trans HX.out) c0
      have a1 := Ext.cell (HX0.out.trans HX.out) c1
      have a2 := Ext.cell (HX0.out.trans HX.out) c2
      clear c0 c1 c2
      obtain ⟨sa, sc, rfl, -⟩ := id hsu
      have HSU := Lib.hid hsu; have Hb' := Lib.hid hb'
      clear hsu hb'
      by_cases hc : b'.at_ = a
      · have hc' : (b'.at_ == a) = true := by simpa using hc
        have Hbb : Hid (b' = b) := Lib.hid (by
          have h1 := Hf.out
          have h2 : bs = bs.take k ++ b' :: bs.drop (k + 1) := by
            conv => lhs; rw [← List.take_append_drop k bs]
            rw [List.drop_eq_getElem_cons hlt]; have := Hb'.out; rw [List.getElem?_eq_getElem hlt] at this; injection this with this; rw [this]
          rw [h2, List.find?_append, List.find?_eq_none.2 (fun x hx => by simpa using HT.out x hx)] at h1
          simp [hc] at h1; exact h1)
        clear hc
        have z0 : wr.cell? ⟨bx, 0, none⟩ = some (.int .i64 0) := (HB.out.cell 0).trans rfl
        have z1 : wr.cell? ⟨bx, 1, none⟩ = some (.int .i64 0) := (HB.out.cell 1).trans rfl
        have z2 : wr.cell? ⟨bx, 2, none⟩ = some (.slice none 0 0) := (HB.out.cell 2).trans rfl
        have f0 := HB.out.frozen 0
        have f1 := HB.out.frozen 1
        have f2 := HB.out.frozen 2
        go_wp2_with fail
        have HB3 := Lib.hid (((HB.out.set 0 (.int .i64 b'.at_)).set 1 (.int .i64 b'.kind)).set 2 (.slice sa b'.ws.length sc))
        have Hbb' := Hbb.out
        subst Hbb'
        refine bodyPost_ret ((results_cell_tmp rfl _ _ _).trans (by
          show ((asAddr (Value.pointer (some ⟨bx, 0, none⟩))).run Try.prog _).andThen _ = _
          rw [show (asAddr (Value.pointer (some ⟨bx, 0, none⟩))) = (pure ⟨bx, 0, none⟩ : Sem Addr) from rfl, Sem.run_pure, Result.andThen_ok, run_loadVar_row _ bx 49 49 _ (0, 0) _ HB3.out Try.underlying49 rfl (by kernel_rfl), Result.andThen_ok])) rfl ?_
        refine ⟨sa, sc, rfl, HSU.out, ?_⟩; exact Keeps.setCell (Keeps.setCell (Keeps.setCell HX.out (.inr (Nat.le_of_eq Hbx.out)) _) (.inr (Nat.le_of_eq Hbx.out)) _) (.inr (Nat.le_of_eq Hbx.out)) _
      · have hc' : (b'.at_ == a) = false := by simpa using hc
        have Hc := Lib.hid hc
        clear hc
        go_wp2
        go_roundw
        case rel => exact ⟨k + 1, hlt, by go_num, HX, Lib.hid (fun x hx => by
          rw [List.take_add_one, Hb'.out] at hx
          rcases List.mem_append.1 hx with hx | hx
          · exact HT.out x hx
          · simp at hx; subst hx; exact Hc.out), HB⟩
        case measure => simp [intOf]; omega
    · have hkn : k = bs.length := by omega
      subst hkn
      exfalso
      have h1 := Hf.out
      rw [List.find?_eq_none.2 (fun x hx => by have := HT.out x (by rw [List.take_length]; exact hx); simpa using this)] at h1
      cases h1
end Go.Proofs.Ytikigppfnhilhaa
