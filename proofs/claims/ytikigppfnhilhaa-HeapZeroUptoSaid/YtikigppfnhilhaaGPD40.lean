/- moved, words, ints. words. -/
import Derived.Test.YtikigppfnhilhaaGPD39
import Derived.Deep.Cut
/- moved, words, ints. -/
namespace Go.Proofs.Ytikigppfnhilhaa
open Go.RowKit Go.Instr
set_option linter.unusedVariables false
set_option linter.unusedSimpArgs false
attribute [local go_sem] Oper.semAt_some

/-- Where an address goes. -/
def mvI (fr to : List Int) (k : Int) : Int := match (fr.zip to).find? (fun q => q.1 = k) with | some q => q.2 | none => k
def movedW (fr to : List Int) (u : Wd) : Wd := if u.tag = 1 then { u with a := mvI fr to u.a } else u
theorem mvI_hit {fr to : List Int} {k : Nat} {a b : Int} (hf : fr[k]? = some a) (ht : to[k]? = some b) (hT : ∀ z ∈ fr.take k, z ≠ a) : mvI fr to a = b := by
  induction fr generalizing to k with
  | nil => simp at hf
  | cons x fr ih => cases to with
    | nil => simp at ht
    | cons y to =>
      cases k with
      | zero => simp at hf ht; subst hf; subst ht; simp [mvI]
      | succ k =>
        simp at hf ht
        have hx : x ≠ a := hT x (by simp)
        have := ih hf ht fun z hz => hT z (by simp [hz])
        rw [← this]; simp [mvI, hx]
theorem mvI_miss {fr to : List Int} {a : Int} (h : ∀ z ∈ fr, z ≠ a) : mvI fr to a = a := by
  induction fr generalizing to with
  | nil => rfl
  | cons x fr ih => cases to with
    | nil => rfl
    | cons y to =>
      have hx : x ≠ a := h x (by simp)
      have := ih (to := to) fun z hz => h z (by simp [hz])
      simp [mvI, hx] at this ⊢; exact this
def RMovedR (w : World) (v : Value) (e : Ending) (w' : World) : Prop := e = .returned v ∧ Ext w w'
set_option maxRecDepth 100000 in
set_option maxHeartbeats 8000000 in
theorem Rmoved_any {w : World} {b1 b2 : Nat} {fa ta : Option Addr} {fc tc : Nat} {fr to : List Int} (hf : w.ownsRow b1 3 1 (.slice fa fr.length fc) fr.length (fr.map (Value.int .i64))) (ht : w.ownsRow b2 3 1 (.slice ta to.length tc) to.length (to.map (Value.int .i64))) (hlen : fr.length = to.length) (hl : fr.length ≤ 1000000) (u : Wd) :
    Calls Try.prog 106 #[u.val, .slice fa fr.length fc, .slice ta to.length tc] w (RMovedR w (movedW fr to u).val) := by
  have HF := Lib.hid hf; have HT := Lib.hid ht
  generalize hM : RMovedR w (movedW fr to u).val = M
  have HM := Lib.hid hM
  clear hM hf ht
  unfold Wd.val Wd.cells
  go_enter Try.func106, Try.ntmps106
  obtain ⟨bx, hbx⟩ : ∃ bx, w.heap.size = bx := ⟨_, rfl⟩
  obtain ⟨bz, hbz⟩ : ∃ bz, bx + 1 = bz := ⟨_, rfl⟩
  go_upto_region 1 with fail
  obtain ⟨w1, hw1⟩ : ∃ w1, (w.alloc (.cells #[.int .i64 u.tag, .int .i64 u.a, .int .i64 u.b, .string u.text, .int .i64 u.man, .int .i64 u.exp] 33)).alloc (.cells #[.int .i64 0, .int .i64 0, .int .i64 0, .string ⟨#[]⟩, .int .i64 0, .int .i64 0] 33) = w1 := ⟨_, rfl⟩
  have HX1 : Hid (Ext w w1) := Lib.hid (by rw [← hw1]; exact ((Ext.refl w).alloc _).alloc _)
  have HB1 : Hid (Blk w1 bx #[.int .i64 u.tag, .int .i64 u.a, .int .i64 u.b, .string u.text, .int .i64 u.man, .int .i64 u.exp] 33) := Lib.hid (by rw [← hw1, ← hbx]; exact (Blk.new w _ _).alloc _)
  have HZ1 : Hid (Blk w1 bz #[.int .i64 0, .int .i64 0, .int .i64 0, .string ⟨#[]⟩, .int .i64 0, .int .i64 0] 33) := Lib.hid (by
    have := Blk.new (w.alloc (.cells #[.int .i64 u.tag, .int .i64 u.a, .int .i64 u.b, .string u.text, .int .i64 u.man, .int .i64 u.exp] 33)) #[.int .i64 0, .int .i64 0, .int .i64 0, .string ⟨#[]⟩, .int .i64 0, .int .i64 0] 33
    rw [← hw1, ← hbz, ← hbx]; simpa using this)
  have Hbx := Lib.hid hbx
  have Hbz : Hid (w.heap.size + 1 = bz) := Lib.hid (by rw [hbx]; exact hbz)
  have Hne : Hid (bx ≠ bz) := Lib.hid (by omega)
  first | rw [hw1] | skip
  clear hw1 hbx hbz
  by_cases htag : u.tag = 1
  · have ht' : (u.tag == 1) = true := by simpa using htag
    have Htag := Lib.hid htag
    have b0 : w1.cell? ⟨bx, 0, none⟩ = some (.int .i64 u.tag) := (HB1.out.cell 0).trans rfl
    clear htag
    go_wp2_with fail
    clear b0
    go_loopw [7] (fun i wr => ∃ k : Nat, k ≤ fr.length ∧ i = .int .i64 k ∧ Hid (Ext w1 wr) ∧ Hid (∀ z ∈ fr.take k, z ≠ u.a)) (fun i wr => fr.length - (intOf i).toNat)
    case atStart => exact ⟨0, Nat.zero_le _, rfl, Lib.hid (Ext.refl w1), Lib.hid (by simp)⟩
    case round =>
    obtain ⟨k, hk, rfl, HX, HTk⟩ := hrel
    by_cases hlt : k < fr.length
    · obtain ⟨z, hz⟩ : ∃ z, fr[k]? = some z := ⟨_, List.getElem?_eq_getElem hlt⟩
      obtain ⟨z2, hz2⟩ : ∃ z2, to[k]? = some z2 := ⟨_, List.getElem?_eq_getElem (by omega)⟩
      obtain ⟨g, c, e, d0⟩ := ownI_getR (own_ext HF.out (HX1.out.trans HX.out)) hz
      injection e with e e2 e3; subst e; clear e2 e3
      obtain ⟨g2, c2, e, d1⟩ := ownI_getR (own_ext HT.out (HX1.out.trans HX.out)) hz2
      injection e with e e2 e3; subst e; clear e2 e3
      have HBr := Lib.hid (HX.out.blk HB1.out id)
      have HZr := Lib.hid (HX.out.blk HZ1.out id)
      have b1 : wr.cell? ⟨bx, 0 + 1, none⟩ = some (.int .i64 u.a) := (HBr.out.cell 1).trans rfl
      have Hz := Lib.hid hz; have Hz2 := Lib.hid hz2
      have hlt2 : k < to.length := by omega
      clear hz hz2
      by_cases he : u.a = z
      · have he' : (u.a == z) = true := by simpa using he
        have Hmv : Hid ((movedW fr to u).val = .agg #[.int .i64 u.tag, .int .i64 z2, .int .i64 u.b, .string u.text, .int .i64 u.man, .int .i64 u.exp]) := Lib.hid (by
          unfold movedW; rw [if_pos Htag.out, mvI_hit (by rw [Hz.out, he]) Hz2.out HTk.out]; rfl)
        have fb1 := HBr.out.frozen 1
        clear he
        go_upto_region 7 with (first | go_big_region)
        obtain ⟨WW, hWW⟩ : ∃ WW, (wr.setCell ⟨bx, 1, none⟩ (.int .i64 z2)).drew = WW := ⟨_, rfl⟩
        have HXw : Hid (Ext w WW) := Lib.hid (by rw [← hWW]; exact ((HX1.out.trans HX.out).setCell (p := ⟨bx, 1, none⟩) (.inr (Nat.le_of_eq Hbx.out)) _).drew)
        have HBw : Hid (Blk WW bx #[.int .i64 u.tag, .int .i64 z2, .int .i64 u.b, .string u.text, .int .i64 u.man, .int .i64 u.exp] 33) := Lib.hid (by rw [← hWW]; have := (HBr.out.set 1 (.int .i64 z2)).drew; simpa using this)
        have HZw : Hid (Blk WW bz #[.int .i64 0, .int .i64 0, .int .i64 0, .string ⟨#[]⟩, .int .i64 0, .int .i64 0] 33) := Lib.hid (by rw [← hWW]; exact (HZr.out.far (a := ⟨bx, 1, none⟩) (Ne.symm Hne.out) _).drew)
        rw [hWW]
        clear hWW b1 d0 d1 fb1
        have b0 : WW.cell? ⟨bx, 0, none⟩ = some (.int .i64 u.tag) := (HBw.out.cell 0).trans rfl
        have b1 : WW.cell? ⟨bx, 0 + 1, none⟩ = some (.int .i64 z2) := (HBw.out.cell 1).trans rfl
        have b2 : WW.cell? ⟨bx, 0 + 2, none⟩ = some (.int .i64 u.b) := (HBw.out.cell 2).trans rfl
        have b3 : WW.cell? ⟨bx, 0 + 3, none⟩ = some (.string u.text) := (HBw.out.cell 3).trans rfl
        have b4 : WW.cell? ⟨bx, 0 + 4, none⟩ = some (.int .i64 u.man) := (HBw.out.cell 4).trans rfl
        have b5 : WW.cell? ⟨bx, 0 + 5, none⟩ = some (.int .i64 u.exp) := (HBw.out.cell 5).trans rfl
        have zz0 : WW.cell? ⟨bz, 0, none⟩ = some (.int .i64 0) := (HZw.out.cell 0).trans rfl
        have zz1 : WW.cell? ⟨bz, 0 + 1, none⟩ = some (.int .i64 0) := (HZw.out.cell 1).trans rfl
        have zz2 : WW.cell? ⟨bz, 0 + 2, none⟩ = some (.int .i64 0) := (HZw.out.cell 2).trans rfl
        have zz3 : WW.cell? ⟨bz, 0 + 3, none⟩ = some (.string ⟨#[]⟩) := (HZw.out.cell 3).trans rfl
        have zz4 : WW.cell? ⟨bz, 0 + 4, none⟩ = some (.int .i64 0) := (HZw.out.cell 4).trans rfl
        have zz5 : WW.cell? ⟨bz, 0 + 5, none⟩ = some (.int .i64 0) := (HZw.out.cell 5).trans rfl
        have f0 := HZw.out.frozen 0
        have f1 := HZw.out.frozen 1
        have f2 := HZw.out.frozen 2
        have f3 := HZw.out.frozen 3
        have f4 := HZw.out.frozen 4
        have f5 := HZw.out.frozen 5
        go_wp2_with fail
        obtain ⟨hb7, hk7⟩ := set6 HZw.out (.int .i64 u.tag) (.int .i64 z2) (.int .i64 u.b) (.string u.text) (.int .i64 u.man) (.int .i64 u.exp)
        refine bodyPost_ret (results_cell_row rfl _ _ bz 33 _ (0, 0) _ rfl hb7 Try.underlying33 rfl (by kernel_rfl)) rfl ?_
        rw [← HM.out]
        exact ⟨by rw [Hmv.out], HXw.out.trans' hk7 fun k hk2 e => by have := Hbz.out; omega⟩
      · have he' : (u.a == z) = false := by simpa using he
        have He := Lib.hid he
        clear he
        go_wp2_with fail
        go_big_region
        go_wp2_with fail
        exact ⟨⟨k + 1, by omega, by simp, Lib.hid HX.out.drew, Lib.hid (fun y hy => by
          rw [List.take_add_one, Hz.out] at hy
          rcases List.mem_append.1 hy with hy | hy
          · exact HTk.out y hy
          · simp at hy; rw [hy]; exact fun e => He.out e.symm)⟩, by simp only [intOf]; omega⟩
    · have hkn : k = fr.length := by omega
      have Hmv : Hid ((movedW fr to u).val = .agg #[.int .i64 u.tag, .int .i64 u.a, .int .i64 u.b, .string u.text, .int .i64 u.man, .int .i64 u.exp]) := Lib.hid (by
        have hT := HTk.out
        rw [hkn, List.take_length] at hT
        unfold movedW; rw [if_pos Htag.out, mvI_miss hT]; rfl)
      have HBw := Lib.hid (HX.out.blk HB1.out id)
      have HZw := Lib.hid (HX.out.blk HZ1.out id)
      have HXw := Lib.hid (HX1.out.trans HX.out)
      clear HX
      generalize wr = WW at HBw HZw HXw ⊢
      clear hkn
      have b0 : WW.cell? ⟨bx, 0, none⟩ = some (.int .i64 u.tag) := (HBw.out.cell 0).trans rfl
      have b1 : WW.cell? ⟨bx, 0 + 1, none⟩ = some (.int .i64 u.a) := (HBw.out.cell 1).trans rfl
      have b2 : WW.cell? ⟨bx, 0 + 2, none⟩ = some (.int .i64 u.b) := (HBw.out.cell 2).trans rfl
      have b3 : WW.cell? ⟨bx, 0 + 3, none⟩ = some (.string u.text) := (HBw.out.cell 3).trans rfl
      have b4 : WW.cell? ⟨bx, 0 + 4, none⟩ = some (.int .i64 u.man) := (HBw.out.cell 4).trans rfl
      have b5 : WW.cell? ⟨bx, 0 + 5, none⟩ = some (.int .i64 u.exp) := (HBw.out.cell 5).trans rfl
      have zz0 : WW.cell? ⟨bz, 0, none⟩ = some (.int .i64 0) := (HZw.out.cell 0).trans rfl
      have zz1 : WW.cell? ⟨bz, 0 + 1, none⟩ = some (.int .i64 0) := (HZw.out.cell 1).trans rfl
      have zz2 : WW.cell? ⟨bz, 0 + 2, none⟩ = some (.int .i64 0) := (HZw.out.cell 2).trans rfl
      have zz3 : WW.cell? ⟨bz, 0 + 3, none⟩ = some (.string ⟨#[]⟩) := (HZw.out.cell 3).trans rfl
      have zz4 : WW.cell? ⟨bz, 0 + 4, none⟩ = some (.int .i64 0) := (HZw.out.cell 4).trans rfl
      have zz5 : WW.cell? ⟨bz, 0 + 5, none⟩ = some (.int .i64 0) := (HZw.out.cell 5).trans rfl
      have f0 := HZw.out.frozen 0
      have f1 := HZw.out.frozen 1
      have f2 := HZw.out.frozen 2
      have f3 := HZw.out.frozen 3
      have f4 := HZw.out.frozen 4
      have f5 := HZw.out.frozen 5
      go_wp2_with fail
      obtain ⟨hb7, hk7⟩ := set6 HZw.out (.int .i64 u.tag) (.int .i64 u.a) (.int .i64 u.b) (.string u.text) (.int .i64 u.man) (.int .i64 u.exp)
      refine bodyPost_ret (results_cell_row rfl _ _ bz 33 _ (0, 0) _ rfl hb7 Try.underlying33 rfl (by kernel_rfl)) rfl ?_
      rw [← HM.out]
      exact ⟨by rw [Hmv.out], HXw.out.trans' hk7 fun k hk2 e => by have := Hbz.out; omega⟩
  · have ht' : (u.tag == 1) = false := by simpa using htag
    have Hmv : Hid ((movedW fr to u).val = .agg #[.int .i64 u.tag, .int .i64 u.a, .int .i64 u.b, .string u.text, .int .i64 u.man, .int .i64 u.exp]) := Lib.hid (by unfold movedW; rw [if_neg htag]; rfl)
    clear htag
    have HBw := HB1; have HZw := HZ1; have HXw := HX1
    clear HB1 HZ1 HX1
    generalize w1 = WW at HBw HZw HXw ⊢
    have b0 : WW.cell? ⟨bx, 0, none⟩ = some (.int .i64 u.tag) := (HBw.out.cell 0).trans rfl
    have b1 : WW.cell? ⟨bx, 0 + 1, none⟩ = some (.int .i64 u.a) := (HBw.out.cell 1).trans rfl
    have b2 : WW.cell? ⟨bx, 0 + 2, none⟩ = some (.int .i64 u.b) := (HBw.out.cell 2).trans rfl
    have b3 : WW.cell? ⟨bx, 0 + 3, none⟩ = some (.string u.text) := (HBw.out.cell 3).trans rfl
    have b4 : WW.cell? ⟨bx, 0 + 4, none⟩ = some (.int .i64 u.man) := (HBw.out.cell 4).trans rfl
    have b5 : WW.cell? ⟨bx, 0 + 5, none⟩ = some (.int .i64 u.exp) := (HBw.out.cell 5).trans rfl
    have zz0 : WW.cell? ⟨bz, 0, none⟩ = some (.int .i64 0) := (HZw.out.cell 0).trans rfl
    have zz1 : WW.cell? ⟨bz, 0 + 1, none⟩ = some (.int .i64 0) := (HZw.out.cell 1).trans rfl
    have zz2 : WW.cell? ⟨bz, 0 + 2, none⟩ = some (.int .i64 0) := (HZw.out.cell 2).trans rfl
    have zz3 : WW.cell? ⟨bz, 0 + 3, none⟩ = some (.string ⟨#[]⟩) := (HZw.out.cell 3).trans rfl
    have zz4 : WW.cell? ⟨bz, 0 + 4, none⟩ = some (.int .i64 0) := (HZw.out.cell 4).trans rfl
    have zz5 : WW.cell? ⟨bz, 0 + 5, none⟩ = some (.int .i64 0) := (HZw.out.cell 5).trans rfl
    have f0 := HZw.out.frozen 0
    have f1 := HZw.out.frozen 1
    have f2 := HZw.out.frozen 2
    have f3 := HZw.out.frozen 3
    have f4 := HZw.out.frozen 4
    have f5 := HZw.out.frozen 5
    go_wp2_with fail
    obtain ⟨hb7, hk7⟩ := set6 HZw.out (.int .i64 u.tag) (.int .i64 u.a) (.int .i64 u.b) (.string u.text) (.int .i64 u.man) (.int .i64 u.exp)
    refine bodyPost_ret (results_cell_row rfl _ _ bz 33 _ (0, 0) _ rfl hb7 Try.underlying33 rfl (by kernel_rfl)) rfl ?_
    rw [← HM.out]
    exact ⟨by rw [Hmv.out], HXw.out.trans' hk7 fun k hk2 e => by have := Hbz.out; omega⟩
end Go.Proofs.Ytikigppfnhilhaa
/- words. -/
namespace Go.Proofs.Ytikigppfnhilhaa
open Go.RowKit Go.Instr
set_option linter.unusedVariables false
set_option linter.unusedSimpArgs false
attribute [local go_sem] Oper.semAt_some
/-! ### words -/
theorem fill_step {us vs : List Wd} {k n : Nat} {x z : Wd} (h : us.length = k) (hn : k < n) : (us ++ List.replicate (n - k) z).set k x = (us ++ [x]) ++ List.replicate (n - (k + 1)) z := by
  obtain ⟨m, hm⟩ : ∃ m, n - k = m + 1 := ⟨n - k - 1, by omega⟩
  have hm2 : n - (k + 1) = m := by omega
  rw [hm, hm2, List.replicate_succ, List.set_append_right _ _ (by omega), h, Nat.sub_self]
  simp
theorem run_makeW2 (n : Nat) (hn : n ≤ 1048576) (w : World) : (Instr.makeSlice 23 (.int .i64 n) (.int .i64 n)).run Try.prog w = .ok (.slice (some ⟨w.heap.size, 0, none⟩) n n) (w.alloc (.cells (flat (List.replicate n wd0)) 33)) := by
  obtain ⟨i, hi, hz0, hz1, hz2⟩ := info_parts info_word
  have := run_make (P := Try.prog) w 23 33 i _ Try.underlying23 hi hz0 .i64 .i64 n n (by omega) (Int.le_refl _) (by rw [hz2]; omega) (by omega)
  rw [this, hz1]
  simp only [Int.toNat_natCast, Value.cells]
  rw [flat_zeros]
def RWordsR (w : World) (ws : List Wd) (e : Ending) (w' : World) : Prop := ∃ arr, e = .returned (.slice (some ⟨arr, 0, none⟩) ws.length ws.length) ∧ Blk w' arr (flat ws) 33 ∧ w.heap.size ≤ arr ∧ Ext w w'
set_option maxRecDepth 100000 in
set_option maxHeartbeats 8000000 in
theorem Rwords_any {w : World} {b1 b2 : Nat} {fa ta : Option Addr} {fc tc : Nat} {fr to : List Int} (hf : w.ownsRow b1 3 1 (.slice fa fr.length fc) fr.length (fr.map (Value.int .i64))) (ht : w.ownsRow b2 3 1 (.slice ta to.length tc) to.length (to.map (Value.int .i64))) (hlen : fr.length = to.length) (hl : fr.length ≤ 1000000)
    {v : Value} {ws : List Wd} (hr : RdW w v ws) (hw : ws.length ≤ 1048576) :
    Calls Try.prog 99 #[v, .slice fa fr.length fc, .slice ta to.length tc] w (RWordsR w (ws.map (movedW fr to))) := by
  have HF := Lib.hid hf; have HT := Lib.hid ht; have HR := Lib.hid hr
  have hmk := run_makeW2 ws.length hw
  generalize hM : RWordsR w (ws.map (movedW fr to)) = M
  have HM := Lib.hid hM
  obtain ⟨va, vc, rfl, -⟩ := hr
  have Hlen := Lib.hid hlen
  clear hM hf ht hlen
  go_enter Try.func99, Try.ntmps99
  obtain ⟨arr, harr⟩ : ∃ arr, w.heap.size = arr := ⟨_, rfl⟩
  go_wp2_with fail
  have HB0 : Hid (Blk (w.alloc (.cells (flat (List.replicate ws.length wd0)) 33)) arr (flat (((ws.take 0).map (movedW fr to)) ++ List.replicate (ws.length - 0) wd0)) 33) := Lib.hid (by rw [← harr]; simpa using Blk.new w (flat (List.replicate ws.length wd0)) 33)
  have Harr := Lib.hid harr
  clear harr hmk
  go_loopw [8] (fun i wr => ∃ k : Nat, k ≤ ws.length ∧ i = .int .i64 k ∧ Hid (Ext w wr) ∧ Hid (Blk wr arr (flat (((ws.take k).map (movedW fr to)) ++ List.replicate (ws.length - k) wd0)) 33)) (fun i wr => ws.length - (intOf i).toNat)
  case atStart => exact ⟨0, Nat.zero_le _, rfl, Lib.hid ((Ext.refl w).alloc _), HB0⟩
  case round =>
  clear HB0
  obtain ⟨k, hk, rfl, HX, HB⟩ := hrel
  by_cases hlt : k < ws.length
  · obtain ⟨u, hu⟩ : ∃ u, ws[k]? = some u := ⟨_, List.getElem?_eq_getElem hlt⟩
    obtain ⟨ad, rfl⟩ := HR.out.some (by rintro e; rw [e] at hu; simp at hu)
    obtain ⟨A, hA⟩ : ∃ A, ad.add (k * 6) = A := ⟨_, rfl⟩
    obtain ⟨c0, c1, c2, c3, c4, c5⟩ := (HR.out.ext HX.out).six hu hA
    have Hu := Lib.hid hu
    have HC := Lib.hid (Rmoved_any (own_ext HF.out HX.out) (own_ext HT.out HX.out) Hlen.out hl u)
    unfold Wd.val Wd.cells at HC
    clear hu
    go_wp2_with fail
    refine HC.out.mono ?_
    rintro e w2 ⟨rfl, hx2⟩
    have HX2 := Lib.hid (HX.out.trans hx2)
    have HB2 := Lib.hid (hx2.blk HB.out id)
    obtain ⟨x, hx⟩ : ∃ x, movedW fr to u = x := ⟨_, rfl⟩
    rw [hx]
    have Hx := Lib.hid hx
    clear hx2 HC HB HX c0 c1 c2 c3 c4 c5 hA hx
    obtain ⟨L, hL⟩ : ∃ L, ((ws.take k).map (movedW fr to)) ++ List.replicate (ws.length - k) wd0 = L := ⟨_, rfl⟩
    have hLl : L.length = ws.length := by rw [← hL]; simp; omega
    rw [hL] at HB2
    have HL := Lib.hid hL
    clear hL
    have hys : ∀ j, j < 6 → ∃ z, w2.cell? ⟨arr, k * 6 + j, none⟩ = some z := fun j hj => by
      obtain ⟨u0, hu0⟩ : ∃ u0, L[k]? = some u0 := ⟨_, List.getElem?_eq_getElem (by omega)⟩
      have h1 := (HB2.out.cell (k * 6 + j)).trans (flat_get _ k u0 hu0 j hj)
      have h2 : j < u0.cells.length := by simp [Wd.cells]; omega
      exact ⟨_, h1.trans (List.getElem?_eq_getElem h2)⟩
    obtain ⟨s0, d0⟩ := hys 0 (by omega)
    obtain ⟨s1, d1⟩ := hys 1 (by omega)
    obtain ⟨s2, d2⟩ := hys 2 (by omega)
    obtain ⟨s3, d3⟩ := hys 3 (by omega)
    obtain ⟨s4, d4⟩ := hys 4 (by omega)
    obtain ⟨s5, d5⟩ := hys 5 (by omega)
    rw [Nat.add_zero] at d0
    have g0 := HB2.out.frozen (k * 6)
    have g1 := HB2.out.frozen (k * 6 + 1)
    have g2 := HB2.out.frozen (k * 6 + 2)
    have g3 := HB2.out.frozen (k * 6 + 3)
    have g4 := HB2.out.frozen (k * 6 + 4)
    have g5 := HB2.out.frozen (k * 6 + 5)
    clear hys
    go_upto_region 4 with fail
    obtain ⟨W4, hW4⟩ : ∃ W4, (((((w2.setCell ⟨arr, k * 6, none⟩ (.int .i64 x.tag)).setCell ⟨arr, k * 6 + 1, none⟩ (.int .i64 x.a)).setCell ⟨arr, k * 6 + 2, none⟩ (.int .i64 x.b)).setCell ⟨arr, k * 6 + 3, none⟩ (.string x.text)).setCell ⟨arr, k * 6 + 4, none⟩ (.int .i64 x.man)).setCell ⟨arr, k * 6 + 5, none⟩ (.int .i64 x.exp) = W4 := ⟨_, rfl⟩
    have HX4 : Hid (Ext w W4) := Lib.hid (by rw [← hW4]; exact HX2.out.putWord (arr := arr) (.inr (Nat.le_of_eq Harr.out)) k x)
    have HB4 : Hid (Blk W4 arr (flat (((ws.take (k + 1)).map (movedW fr to)) ++ List.replicate (ws.length - (k + 1)) wd0)) 33) := Lib.hid (by
      have h1 := HB2.out.word k x (by omega)
      rw [← HL.out, fill_step (us := (ws.take k).map (movedW fr to)) (vs := []) (by simp; omega) hlt] at h1
      have e : (ws.take (k + 1)).map (movedW fr to) = (ws.take k).map (movedW fr to) ++ [x] := by rw [List.take_add_one, Hu.out, List.map_append]; simp [Hx.out]
      rw [← hW4, e]
      exact h1)
    rw [hW4]
    clear hW4 d0 d1 d2 d3 d4 d5 g0 g1 g2 g3 g4 g5 HX2 HB2
    go_wp2_with fail
    exact ⟨⟨k + 1, by omega, by simp, HX4, HB4⟩, by simp only [intOf]; omega⟩
  · have hkn : k = ws.length := by omega
    subst hkn
    go_wp2_with fail
    rw [← HM.out]
    refine ⟨arr, by simp, ?_, Nat.le_of_eq Harr.out, HX.out⟩
    have := HB.out
    rw [List.take_length, Nat.sub_self] at this
    simpa using this
end Go.Proofs.Ytikigppfnhilhaa
