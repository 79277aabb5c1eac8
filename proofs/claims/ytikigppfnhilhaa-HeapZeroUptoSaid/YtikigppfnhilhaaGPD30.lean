/- HeapStores: the walk. dense: blocks lie without gaps. -/
import Derived.Test.YtikigppfnhilhaaGPD29
/- HeapStores: the walk. -/
namespace Go.Proofs.Ytikigppfnhilhaa
open Go.RowKit Go.Instr
set_option linter.unusedVariables false
set_option linter.unusedSimpArgs false

theorem play_any (young old : Int) {v : Value} {l : List Ac} {w : World} (hl : RdA w v l) (hn : l.length ≤ 1048576) (hroots : ∀ x ∈ l, x.roots.length ≤ 1048576) :
    Calls Try.prog 11 #[.int .i64 young, .int .i64 old, v] w fun e w' => (e = .returned (.tuple #[.pointer none, .bool false]) ∧ Ext w w') ∨
      ∃ hp x, e = .returned (.tuple #[.pointer (some ⟨hp, 0, none⟩), .bool true]) ∧ Heap w w' hp young old x ∧ 0 ≤ young ∧ young ≤ 300 ∧ 0 ≤ old ∧ old ≤ 300 := by
  by_cases hb : young < 0 ∨ 100000 < young ∨ old < 0 ∨ 100000 < old
  · exact (play_bad young old v w hb).mono fun e w' h => .inl h
  · by_cases hb2 : 300 < young ∨ 300 < old
    · exact (play_big young old v w (by omega) (by omega) (by omega) (by omega) hb2).mono fun e w' h => .inl h
    · exact (play_good young old hl hn hroots (by omega) (by omega) (by omega) (by omega)).mono fun e w' ⟨hp, x, h1, h2⟩ => .inr ⟨hp, x, h1, h2, by omega, by omega, by omega, by omega⟩
theorem HRep.rebase {w : World} {b b' : Nat} {x : PH} (h : HRep w b x) (hb : b' ≤ b) : HRep w b' x :=
  { h with yrow := ownsRow_base h.yrow hb, orow := ownsRow_base h.orow hb, base_ := fun k hk => Nat.le_trans hb (h.base_ k hk) }
theorem Heap.rebase {W0 W1 w : World} {hp : Nat} {y o : Int} {x : PH} (h : Heap W1 w hp y o x) (hx : Ext W0 W1) : Heap W0 w hp y o x :=
  ⟨h.rep.rebase hx.size, h.hp_, h.inv, h.Y, h.O, hx.trans h.ext⟩
theorem OwnBs.keeps {S : Nat → Prop} {w w' : World} {n0 : Nat} {v : Value} {bs : List Bk} {vs : List Value} (h : OwnBs w n0 v bs vs) (hk : Keeps S w w') (hs : ∀ k, n0 ≤ k → ¬ S k) : OwnBs w' n0 v bs vs :=
  ⟨h.len, ownsRow_keeps h.row fun k e => hk.block k (h.row.lt k e).2 (hs k (h.row.lt k e).1),
   fun i b u hb hu => ownsRow_keeps (h.ws i b u hb hu) fun k e => hk.block k ((h.ws i b u hb hu).lt k e).2 (hs k ((h.ws i b u hb hu).lt k e).1)⟩

/-! ### What Store and Load do, without places -/
theorem setB_at (k : Int) (i : Nat) (u : Wd) (b : Bk) : (setB k i u b).at_ = b.at_ := by unfold setB; split <;> rfl
theorem setB_len (k : Int) (i : Nat) (u : Wd) (b : Bk) : (setB k i u b).ws.length = b.ws.length := by unfold setB; split <;> simp
theorem setB_get {k : Int} {i : Nat} {u : Wd} {b : Bk} {j : Nat} (h : ¬ (b.at_ = k ∧ j = i)) : (setB k i u b).ws[j]? = b.ws[j]? := by
  unfold setB
  split
  · rename_i e
    have : i ≠ j := fun e2 => h ⟨e, e2.symm⟩
    simp [List.getElem?_set, this]
  · rfl
theorem store_all {h : LH} {k i : Int} {u : Wd} (he : (h.store k i u).2 = 0) : (h.store k i u).1.all = h.all.map (setB k i.toNat u) ∧ ∃ b, h.find k = some b ∧ 0 ≤ i ∧ i < b.ws.length := by
  have hE : h.storeE k i u = 0 := by
    unfold LH.store at he; split at he
    · assumption
    · exact he
  refine ⟨by unfold LH.store LH.all; rw [if_pos hE]; simp, ?_⟩
  unfold LH.storeE at hE
  cases hf : h.find k with
  | none => rw [hf] at hE; simp at hE
  | some b =>
    rw [hf] at hE
    simp only [] at hE
    split at hE
    · rename_i hc; exact ⟨b, rfl, hc.1, hc.2⟩
    · simp at hE
theorem store_none {h : LH} {k i : Int} {u : Wd} (he : (h.store k i u).2 ≠ 0) : (h.store k i u).1 = h := by
  unfold LH.store at he ⊢; split
  · rename_i h1; rw [if_pos h1] at he; exact (he rfl).elim
  · rfl
theorem find_map_setB (l : List Bk) (k j : Int) (i : Nat) (u : Wd) : (l.map (setB k i u)).find? (fun b => b.at_ = j) = (l.find? (fun b => b.at_ = j)).map (setB k i u) := by
  rw [List.find?_map]
  congr 1
  congr 1
  funext b
  simp [Function.comp, setB_at]
theorem store_load {h : LH} {k i : Int} {u : Wd} (he : (h.store k i u).2 = 0) : loadL ((h.store k i u).1.find k) i = (u, 0) := by
  obtain ⟨h1, b, hf, h2, h3⟩ := store_all he
  have h4 : (h.store k i u).1.find k = some (setB k i.toNat u b) := by
    unfold LH.find at hf ⊢
    rw [h1, find_map_setB, hf]; rfl
  rw [h4]
  unfold loadL
  have hk := (LH.find_mem hf).2
  have hlt : i.toNat < b.ws.length := by omega
  simp only [setB_len, if_pos (And.intro h2 h3)]
  unfold setB
  rw [if_pos hk]
  simp [hlt]

theorem RdB.some {w : World} {a : Option Addr} {n c : Nat} {bs : List Bk} (h : RdB w (.slice a n c) bs) (hn : bs ≠ []) : ∃ ad, a = Option.some ad := by
  obtain ⟨a', c', e, h1, -⟩ := h
  injection e with e _ _
  subst e
  cases a with
  | none => exact (hn (h1 rfl)).elim
  | some ad => exact ⟨ad, rfl⟩
theorem RdW.some {w : World} {a : Option Addr} {n c : Nat} {ws : List Wd} (h : RdW w (.slice a n c) ws) (hn : ws ≠ []) : ∃ ad, a = Option.some ad := by
  obtain ⟨a', c', e, h1, -⟩ := h
  injection e with e _ _
  subst e
  cases a with
  | none => exact (hn (h1 rfl)).elim
  | some ad => exact ⟨ad, rfl⟩
theorem set6 {W0 : World} {b : Nat} {z0 z1 z2 z3 z4 z5 : Value} {T : TypeId} (h : Blk W0 b #[z0, z1, z2, z3, z4, z5] T) (u0 u1 u2 u3 u4 u5 : Value) :
    Blk ((((((W0.setCell ⟨b, 0, none⟩ u0).setCell ⟨b, 1, none⟩ u1).setCell ⟨b, 2, none⟩ u2).setCell ⟨b, 3, none⟩ u3).setCell ⟨b, 4, none⟩ u4).setCell ⟨b, 5, none⟩ u5) b #[u0, u1, u2, u3, u4, u5] T ∧ Keeps (· = b) W0 ((((((W0.setCell ⟨b, 0, none⟩ u0).setCell ⟨b, 1, none⟩ u1).setCell ⟨b, 2, none⟩ u2).setCell ⟨b, 3, none⟩ u3).setCell ⟨b, 4, none⟩ u4).setCell ⟨b, 5, none⟩ u5) :=
  ⟨by have h2 := ((((((h.set 0 u0).set 1 u1).set 2 u2).set 3 u3).set 4 u4).set 5 u5); simpa using h2, (((((((Keeps.refl (· = b) W0).setCell (p := ⟨b, 0, none⟩) (.inl rfl) u0).setCell (p := ⟨b, 1, none⟩) (.inl rfl) u1).setCell (p := ⟨b, 2, none⟩) (.inl rfl) u2).setCell (p := ⟨b, 3, none⟩) (.inl rfl) u3).setCell (p := ⟨b, 4, none⟩) (.inl rfl) u4).setCell (p := ⟨b, 5, none⟩) (.inl rfl) u5)⟩

set_option maxRecDepth 100000 in
set_option maxHeartbeats 8000000 in
theorem HeapStores_any (young old : Int) {lv : Value} {l : List Ac} (a i : Int) (u : Wd) {w : World} (hl : RdA w lv l) (hn : l.length ≤ 1048576) (hroots : ∀ x ∈ l, x.roots.length ≤ 1048576) :
    Calls Try.prog 4 #[.int .i64 young, .int .i64 old, lv, .int .i64 a, .int .i64 i, u.val] w fun e w' => e = .returned (.bool true) ∧ Ext w w' := by
  have HL := Lib.hid hl; have Hroots := Lib.hid hroots
  clear hl hroots
  unfold Wd.val Wd.cells
  go_enter Try.func4, Try.ntmps4
  go_wp2_with fail
  refine (awake_any _).mono ?_
  rintro e w2 ⟨rfl, hx2⟩
  obtain ⟨bx, hbx⟩ : ∃ bx, w.heap.size = bx := ⟨_, rfl⟩
  have hb2 := hx2.blk (Blk.new w _ _) id
  have hxx2 := ((Ext.refl w).alloc _).trans hx2
  rw [hbx] at hb2 ⊢
  have HB2 := Lib.hid hb2; have HX2 := Lib.hid hxx2; have Hbx := Lib.hid hbx
  clear hb2 hxx2 hx2 hbx
  have HP := Lib.hid (play_any young old (HL.out.ext HX2.out) hn Hroots.out)
  go_wp2_with fail
  refine HP.out.mono ?_
  rintro e w3 (⟨rfl, hx3⟩ | ⟨hp, x, rfl, h3, -⟩)
  · go_wp2
    go_ret
    exact ⟨rfl, HX2.out.trans hx3⟩
  · have H3 := Lib.hid (h3.rebase HX2.out)
    have hbs2 : bx < w2.heap.size := HB2.out.lt
    have Hnf : Hid (¬ x.fp bx) := Lib.hid fun hf => by have := h3.rep.base_ bx hf; omega
    have HB3 := Lib.hid (h3.ext.blk HB2.out id)
    clear h3 HP HB2
    have HCb := Lib.hid H3.out.blocks
    go_wp2_with fail
    refine HCb.out.mono ?_
    rintro e w4 ⟨ba, bc, vs, rfl, hob, hx4⟩
    have H4 := Lib.hid (H3.out.later hx4)
    have HB4 := Lib.hid (hx4.blk HB3.out id)
    have HO4 := Lib.hid hob
    have Hs3 : Hid (∀ k, w3.heap.size ≤ k → ¬ x.fp k ∧ k ≠ bx) := Lib.hid fun k hk => ⟨fun hf => by have := H3.out.rep.fp_lt k hf; omega, fun e => by have := HB3.out.lt; omega⟩
    have Hall := Lib.hid H3.out.all_len
    have Hwl : Hid (∀ b ∈ x.log.all, b.ws.length ≤ 2000000) := Lib.hid fun b hb => by
      rw [log_all] at hb
      obtain ⟨z, hz, rfl⟩ := List.mem_map.1 hb
      have := H3.out.rep.ok.len hz; omega
    clear hx4 hob HCb HB3 hbs2
    have HN := Lib.hid (near_any (rdB_of_own HO4.out) Hall.out a)
    go_wp2_with fail
    refine HN.out.mono ?_
    rintro e w5 ⟨rfl, rfl⟩
    clear HN
    obtain ⟨AT, hAT⟩ : ∃ AT, nearB x.log.all a = AT := ⟨_, rfl⟩
    rw [hAT]
    clear hAT
    have c0 : w5.cell? ⟨bx, 0, none⟩ = some (.int .i64 u.tag) := (HB4.out.cell 0).trans rfl
    have c1 : w5.cell? ⟨bx, 1, none⟩ = some (.int .i64 u.a) := (HB4.out.cell 1).trans rfl
    have c2 : w5.cell? ⟨bx, 2, none⟩ = some (.int .i64 u.b) := (HB4.out.cell 2).trans rfl
    have c3 : w5.cell? ⟨bx, 3, none⟩ = some (.string u.text) := (HB4.out.cell 3).trans rfl
    have c4 : w5.cell? ⟨bx, 4, none⟩ = some (.int .i64 u.man) := (HB4.out.cell 4).trans rfl
    have c5 : w5.cell? ⟨bx, 5, none⟩ = some (.int .i64 u.exp) := (HB4.out.cell 5).trans rfl
    have HW := Lib.hid (lword_any (rdB_of_own HO4.out) Hall.out u true)
    unfold Wd.val Wd.cells at HW
    go_wp2_with fail
    refine HW.out.mono ?_
    rintro e w6 ⟨rfl, hx6⟩
    clear c0 c1 c2 c3 c4 c5
    obtain ⟨W2, hW2⟩ : ∃ W2, wordB x.log.all u true = W2 := ⟨_, rfl⟩
    rw [hW2]
    have H6 := Lib.hid (H4.out.later hx6)
    have HB6 := Lib.hid (hx6.blk HB4.out id)
    have HO6 := Lib.hid (HO4.out.keeps hx6 fun _ _ h => h)
    clear hW2 hx6 HW H4 HB4 HO4
    have c0 : w6.cell? ⟨bx, 0, none⟩ = some (.int .i64 u.tag) := (HB6.out.cell 0).trans rfl
    have c1 : w6.cell? ⟨bx, 1, none⟩ = some (.int .i64 u.a) := (HB6.out.cell 1).trans rfl
    have c2 : w6.cell? ⟨bx, 2, none⟩ = some (.int .i64 u.b) := (HB6.out.cell 2).trans rfl
    have c3 : w6.cell? ⟨bx, 3, none⟩ = some (.string u.text) := (HB6.out.cell 3).trans rfl
    have c4 : w6.cell? ⟨bx, 4, none⟩ = some (.int .i64 u.man) := (HB6.out.cell 4).trans rfl
    have c5 : w6.cell? ⟨bx, 5, none⟩ = some (.int .i64 u.exp) := (HB6.out.cell 5).trans rfl
    have f0 := HB6.out.frozen 0
    have f1 := HB6.out.frozen 1
    have f2 := HB6.out.frozen 2
    have f3 := HB6.out.frozen 3
    have f4 := HB6.out.frozen 4
    have f5 := HB6.out.frozen 5
    go_wp2_with fail
    obtain ⟨hb7, hk7⟩ := set6 HB6.out (.int .i64 W2.tag) (.int .i64 W2.a) (.int .i64 W2.b) (.string W2.text) (.int .i64 W2.man) (.int .i64 W2.exp)
    obtain ⟨w7, hw7⟩ : ∃ w7, (((((w6.setCell ⟨bx, 0, none⟩ (.int .i64 W2.tag)).setCell ⟨bx, 1, none⟩ (.int .i64 W2.a)).setCell ⟨bx, 2, none⟩ (.int .i64 W2.b)).setCell ⟨bx, 3, none⟩ (.string W2.text)).setCell ⟨bx, 4, none⟩ (.int .i64 W2.man)).setCell ⟨bx, 5, none⟩ (.int .i64 W2.exp) = w7 := ⟨_, rfl⟩
    rw [hw7] at hb7 hk7 ⊢
    have H7 := Lib.hid (H6.out.keep1 hk7 (by rw [Hbx.out]; exact Nat.le_refl _) Hnf.out)
    have HB7 := Lib.hid hb7
    have HO7 := Lib.hid (HO6.out.keeps hk7 fun k hk => (Hs3.out k hk).2)
    clear hb7 hk7 hw7 H6 HB6 HO6 c0 c1 c2 c3 c4 c5 f0 f1 f2 f3 f4 f5
    have HS := Lib.hid (H7.out.storeL AT i W2)
    unfold Wd.val Wd.cells at HS
    refine HS.out.mono ?_
    rintro e w8 ⟨rfl, ⟨x', h8, l8⟩, hk8⟩
    have H8 := Lib.hid h8
    have HB8 := Lib.hid (hk8.blk HB7.out Hnf.out)
    have HO8 := Lib.hid (HO7.out.keeps hk8 fun k hk => (Hs3.out k hk).1)
    have L8 := Lib.hid l8
    obtain ⟨E, hE⟩ : ∃ E, (x.log.store AT i W2).2 = E := ⟨_, rfl⟩
    rw [hE]
    have HE := Lib.hid hE
    clear h8 l8 hk8 hE H7 HB7 HO7 HS Hs3 Hnf
    have HCb := Lib.hid H8.out.blocks
    go_wp2_with fail
    refine HCb.out.mono ?_
    rintro e w9 ⟨aa, ac, vs', rfl, hob, hx9⟩
    have H9 := Lib.hid (H8.out.later hx9)
    have HB9 := Lib.hid (hx9.blk HB8.out id)
    have HO9 := Lib.hid (HO8.out.keeps hx9 fun _ _ h => h)
    have HP9 := Lib.hid hob
    have Hall' := Lib.hid H8.out.all_len
    clear hob hx9 HCb H8 HB8 HO8
    have HLd := Lib.hid (H9.out.loadL AT i)
    unfold Wd.val Wd.cells at HLd
    go_wp2_with fail
    refine HLd.out.mono ?_
    rintro e w10 ⟨rfl, hx10⟩
    have HX10 := Lib.hid (H9.out.ext.trans hx10)
    have HB10 := Lib.hid (hx10.blk HB9.out id)
    have HO10 := Lib.hid (rdB_of_own (HO9.out.keeps hx10 fun _ _ h => h))
    have HP10 := Lib.hid (rdB_of_own (HP9.out.keeps hx10 fun _ _ h => h))
    have Hok := Lib.hid H9.out.rep.ok.lok
    clear hx10 HLd H9 HB9 HO9 HP9
    by_cases hE : E = 0
    · subst hE
      have hld : loadL (x'.log.find AT) i = (W2, 0) := by rw [L8.out]; exact store_load HE.out
      have hall : x'.log.all = x.log.all.map (setB AT i.toNat W2) := by rw [L8.out]; exact (store_all HE.out).1
      have hlen : x'.log.all.length = x.log.all.length := by rw [hall, List.length_map]
      have h0i : 0 ≤ i := (store_all HE.out).2.choose_spec.2.1
      rw [hld]
      rw [hall] at HP10
      rw [hlen]
      generalize hbs : x.log.all = bs at HO10 HP10 ⊢
      have hbl : bs.length ≤ 1000000 := by rw [← hbs]; exact Hall.out
      have Hwl : Hid (∀ b ∈ bs, b.ws.length ≤ 2000000) := Lib.hid (by rw [← hbs]; exact Hwl.out)
      clear hld hall hlen hbs Hall Hall' L8 HE
      simp only []
      have hne := run_neqW W2 W2
      unfold Wd.val Wd.cells at hne
      rw [decide_eq_true rfl] at hne
      have d0 : w10.cell? ⟨bx, 0, none⟩ = some (.int .i64 W2.tag) := (HB10.out.cell 0).trans rfl
      have d1 : w10.cell? ⟨bx, 1, none⟩ = some (.int .i64 W2.a) := (HB10.out.cell 1).trans rfl
      have d2 : w10.cell? ⟨bx, 2, none⟩ = some (.int .i64 W2.b) := (HB10.out.cell 2).trans rfl
      have d3 : w10.cell? ⟨bx, 3, none⟩ = some (.string W2.text) := (HB10.out.cell 3).trans rfl
      have d4 : w10.cell? ⟨bx, 4, none⟩ = some (.int .i64 W2.man) := (HB10.out.cell 4).trans rfl
      have d5 : w10.cell? ⟨bx, 5, none⟩ = some (.int .i64 W2.exp) := (HB10.out.cell 5).trans rfl
      have hbw : bx < w10.heap.size := HB10.out.lt
      go_wp2_with fail
      generalize hw11 : w10.alloc (.cells #[.int .i64 W2.tag, .int .i64 W2.a, .int .i64 W2.b, .string W2.text, .int .i64 W2.man, .int .i64 W2.exp] 33) = w11
      have HX11 : Hid (Ext w10 w11) := Lib.hid (by rw [← hw11]; exact (Ext.refl _).alloc _)
      clear hw11 d0 d1 d2 d3 d4 d5 hne
      go_loopw [22] (fun c wr => ∃ k : Nat, k ≤ bs.length ∧ c = .int .i64 k ∧ Hid (Ext w10 wr)) (fun c wr => bs.length - (intOf c).toNat)
      case atStart => exact ⟨0, Nat.zero_le _, rfl, HX11⟩
      case round =>
        clear HX11
        obtain ⟨k, hk, rfl, HXr⟩ := hrel
        by_cases hlt : k < bs.length
        · obtain ⟨b, hb⟩ : ∃ b, bs[k]? = some b := ⟨_, List.getElem?_eq_getElem hlt⟩
          have hb' : (bs.map (setB AT i.toNat W2))[k]? = some (setB AT i.toNat W2 b) := by rw [List.getElem?_map, hb]; rfl
          have hbm := List.mem_of_getElem? hb
          have hwl := Hwl.out b hbm
          have hbn : bs ≠ [] := by rintro rfl; simp at hb
          obtain ⟨ad, rfl⟩ := HO10.out.some hbn
          obtain ⟨bd, rfl⟩ := HP10.out.some (by simpa using hbn)
          obtain ⟨A, hA⟩ : ∃ A, ad.add (k * 3) = A := ⟨_, rfl⟩
          obtain ⟨B, hB⟩ : ∃ B, bd.add (k * 3) = B := ⟨_, rfl⟩
          have Hb := Lib.hid hb; have Hb' := Lib.hid hb'
          clear hb hb' hbm hbn
          go_wp2_with fail
          go_loopw [23] (fun c wr2 => ∃ j : Nat, j ≤ b.ws.length ∧ c = .int .i64 j ∧ Hid (Ext w10 wr2)) (fun c wr2 => b.ws.length - (intOf c).toNat)
          case atStart => exact ⟨0, Nat.zero_le _, rfl, HXr⟩
          case round =>
            clear HXr
            obtain ⟨j, hj, rfl, HXj⟩ := hrel
            obtain ⟨su, a0, a1, a2, hsu⟩ := (HO10.out.ext HXj.out).at_ Hb.out hA
            obtain ⟨sv, b0, b1, b2, hsv⟩ := (HP10.out.ext HXj.out).at_ Hb'.out hB
            obtain ⟨sa, sc, rfl, -⟩ := id hsu
            obtain ⟨ta, tc, rfl, -⟩ := id hsv
            rw [setB_len] at b2 hsv
            have HSU := Lib.hid hsu; have HSV := Lib.hid hsv
            clear hsu hsv
            by_cases hjl : j < b.ws.length
            · by_cases hc : b.at_ = AT ∧ (j : Int) = i
              · have hat : (b.at_ == AT) = true := by simpa using hc.1
                have hji : ((j : Int) == i) = true := by simpa using hc.2
                clear hc
                go_wp2
                go_roundw
                case rel => exact ⟨j + 1, hjl, by go_num, HXj⟩
                case measure => simp [intOf]; omega
              · obtain ⟨v, hv⟩ : ∃ v, b.ws[j]? = some v := ⟨_, List.getElem?_eq_getElem hjl⟩
                have hv' : (setB AT i.toNat W2 b).ws[j]? = some v := by
                  rw [setB_get (fun h => hc ⟨h.1, by omega⟩)]; exact hv
                have hwn : b.ws ≠ [] := by rintro e; rw [e] at hv; simp at hv
                obtain ⟨sad, rfl⟩ := HSU.out.some hwn
                obtain ⟨tad, rfl⟩ := HSV.out.some (by rintro e; rw [e] at hv'; simp at hv')
                obtain ⟨A1, hA1⟩ : ∃ A, sad.add (j * 6) = A := ⟨_, rfl⟩
                obtain ⟨B1, hB1⟩ : ∃ B, tad.add (j * 6) = B := ⟨_, rfl⟩
                obtain ⟨p0, p1, p2, p3, p4, p5⟩ := HSU.out.six hv hA1
                obtain ⟨q0, q1, q2, q3, q4, q5⟩ := HSV.out.six hv' hB1
                have hne := run_neqW v v
                unfold Wd.val Wd.cells at hne
                rw [decide_eq_true rfl] at hne
                clear hv hv' hwn
                by_cases hat0 : b.at_ = AT
                · have hat : (b.at_ == AT) = true := by simpa using hat0
                  have hji : ((j : Int) == i) = false := by simpa using fun e => hc ⟨hat0, e⟩
                  clear hc hat0
                  go_wp2
                  go_region
                  clear a0 a1 a2 b0 b1 b2 p0 p1 p2 p3 p4 p5 q0 q1 q2 q3 q4 q5 hne hA1 hB1
                  go_wp2
                  go_roundw
                  case rel => exact ⟨j + 1, hjl, by go_num, Lib.hid HXj.out.drew⟩
                  case measure => simp [intOf]; omega
                · have hat : (b.at_ == AT) = false := by simpa using hat0
                  clear hc hat0
                  go_wp2
                  go_region
                  clear a0 a1 a2 b0 b1 b2 p0 p1 p2 p3 p4 p5 q0 q1 q2 q3 q4 q5 hne hA1 hB1
                  go_wp2
                  go_roundw
                  case rel => exact ⟨j + 1, hjl, by go_num, Lib.hid HXj.out.drew⟩
                  case measure => simp [intOf]; omega
            · have hjn : j = b.ws.length := by omega
              subst hjn
              go_wp2
              exact ⟨⟨k + 1, hlt, by simp, HXj⟩, by simp only [intOf]; omega⟩
        · have hkn : k = bs.length := by omega
          subst hkn
          go_wp2
          go_ret
          exact ⟨rfl, HX10.out.trans HXr.out⟩
    · have hE' : (E != 0) = true := by simpa using hE
      have hlog : x'.log = x.log := by rw [L8.out]; exact store_none (by rw [HE.out]; exact hE)
      have HSB := Lib.hid (fun W (hW : Ext w10 W) => sameBlocks_any (HO10.out.ext hW) (HP10.out.ext hW) Hall.out Hall'.out Hwl.out (by rw [hlog]; exact Hwl.out))
      have Hsame : Hid (x.log.all = x'.log.all) := Lib.hid (by rw [hlog])
      clear hE hlog
      go_wp2_with fail
      refine (HSB.out _ ((Ext.refl w10).alloc _)).mono ?_
      rintro e w11 ⟨rfl, hx11⟩
      rw [decide_eq_true Hsame.out]
      go_wp2
      go_ret
      exact ⟨rfl, (HX10.out.trans ((Ext.refl w10).alloc _)).trans hx11⟩
end Go.Proofs.Ytikigppfnhilhaa
/- dense: blocks lie without gaps. -/
namespace Go.Proofs.Ytikigppfnhilhaa
open Go.RowKit Go.Instr
set_option linter.unusedVariables false
set_option linter.unusedSimpArgs false
attribute [local go_sem] Oper.semAt_some

theorem dense_get {f : Int} {l : List Bk} (h : Dense f l) {k : Nat} {b : Bk} (hb : l[k]? = some b) : b.at_ = f + bused (l.take k) := by
  induction l generalizing f k with
  | nil => simp at hb
  | cons c l ih =>
    cases k with
    | zero => simp at hb; subst hb; simp [bused, h.1]
    | succ k =>
      simp at hb
      have := ih h.2 hb
      rw [this]; simp [bused]; omega
theorem bused_take_succ {l : List Bk} {k : Nat} {b : Bk} (hb : l[k]? = some b) : bused (l.take (k + 1)) = bused (l.take k) + (b.ws.length + 1) := by
  rw [List.take_add_one, hb]
  induction (l.take k) with
  | nil => simp [bused]
  | cons c l ih => simp [bused] at ih ⊢; omega

theorem bused_take_le (k : Nat) (l : List Bk) : bused (l.take k) ≤ bused l := by
  have h1 : bused l = bused (l.take k) + bused (l.drop k) := by rw [← bused_append, List.take_append_drop]
  have := bused_nonneg (l.drop k); omega
def TrueRd (w : World) (e : Ending) (w' : World) : Prop := e = .returned (.bool true) ∧ Ext w w'
set_option maxRecDepth 100000 in
set_option maxHeartbeats 8000000 in
theorem dense_any {W0 w : World} {hp : Nat} {y o : Int} {x : PH} (h : Heap W0 w hp y o x) :
    Calls Try.prog 21 #[.pointer (some ⟨hp, 0, none⟩), .int .i64 y, .int .i64 o] w (TrueRd w) := by
  have H := Lib.hid h
  have ok := h.rep.ok
  have hY : y = x.Y := h.Y.symm
  have hO : o = x.O := h.O.symm
  have y0 : 0 ≤ y := by rw [hY]; exact ok.Y0
  have y1 : y ≤ 100000 := by rw [hY]; exact ok.Y1
  have o0 : 0 ≤ o := by rw [hO]; exact ok.O0
  have o1 : o ≤ 100000 := by rw [hO]; exact ok.O1
  obtain ⟨Yb, hYb⟩ : ∃ Yb, x.log.yb = Yb := ⟨_, rfl⟩
  obtain ⟨Ob, hOb⟩ : ∃ Ob, x.log.ob = Ob := ⟨_, rfl⟩
  have hL : x.log.all = Yb ++ Ob := by rw [← hYb, ← hOb]; rfl
  have dy : Dense 1 Yb := by rw [← hYb]; exact ok.lok.dy
  have do_ : Dense (y + 1) Ob := by rw [← hOb, hY]; exact ok.lok.do_
  have uy : bused Yb ≤ y := by rw [← hYb, hY]; exact ok.lok.uy
  have uo : bused Ob ≤ o := by rw [← hOb, hO]; exact ok.lok.uo
  have hYl : (Yb.length : Int) ≤ bused Yb := bused_len _
  have hOl : (Ob.length : Int) ≤ bused Ob := bused_len _
  have Hf := Lib.hid h.free
  rw [hYb, hOb] at Hf
  have HL := Lib.hid hL; have Hdy := Lib.hid dy; have Hdo := Lib.hid do_
  have Hby : Hid (∀ k, bused (Yb.take k) ≤ bused Yb ∧ 0 ≤ bused (Yb.take k)) := Lib.hid fun k => ⟨bused_take_le k Yb, bused_nonneg _⟩
  have Hbo : Hid (∀ k, bused (Ob.take k) ≤ bused Ob ∧ 0 ≤ bused (Ob.take k)) := Lib.hid fun k => ⟨bused_take_le k Ob, bused_nonneg _⟩
  generalize hM : TrueRd w = M
  have HM := Lib.hid hM
  clear h ok hY hO hYb hOb hL dy do_ hM
  go_enter Try.func21, Try.ntmps21
  go_wp2_with fail
  refine Hf.out.mono ?_
  rintro e w1 ⟨rfl, hx1⟩
  have H1 := Lib.hid (H.out.later hx1); have HX1 := Lib.hid hx1
  clear hx1 Hf
  have HCb := Lib.hid H1.out.blocks
  go_wp2_with fail
  refine HCb.out.mono ?_
  rintro e w2 ⟨ba, bc, vs, rfl, hob, hx2⟩
  have HO := Lib.hid (rdB_of_own hob)
  have HX2 := Lib.hid (HX1.out.trans hx2)
  have hlen : x.log.all.length = Yb.length + Ob.length := by rw [HL.out, List.length_append]
  rw [HL.out] at HO
  have HB : Hid (RdB w2 (.slice ba (Yb.length + Ob.length) bc) (Yb ++ Ob)) := Lib.hid (by have := HO.out; rwa [List.length_append] at this)
  rw [hlen]
  clear hob hx2 HCb H1 H HO hlen
  go_wp2_with fail
  go_loopw [10, 11] (fun nx i wr => ∃ k : Nat, k ≤ Yb.length ∧ i = .int .i64 k ∧ nx = .int .i64 (1 + bused (Yb.take k)) ∧ wr = w2) (fun nx i wr => Yb.length - (intOf i).toNat)
  case atStart => exact ⟨0, Nat.zero_le _, rfl, by simp [bused], rfl⟩
  case round =>
    obtain ⟨k, hk, rfl, rfl, rfl⟩ := hrel
    by_cases hlt : k < Yb.length
    · obtain ⟨b, hb⟩ : ∃ b, Yb[k]? = some b := ⟨_, List.getElem?_eq_getElem hlt⟩
      have hb' : (Yb ++ Ob)[k]? = some b := by rw [List.getElem?_append_left hlt]; exact hb
      have hat := dense_get Hdy.out hb
      have hle := (Hdy.out.mem (List.mem_of_getElem? hb)).2
      have hsucc := bused_take_succ hb
      obtain ⟨ad, rfl⟩ := HB.out.some (by rintro e; rw [e] at hb'; simp at hb')
      obtain ⟨A, hA⟩ : ∃ A, ad.add (k * 3) = A := ⟨_, rfl⟩
      obtain ⟨su, a0, a1, a2, hsu⟩ := HB.out.at_ hb' hA
      obtain ⟨sa, sc, rfl, -⟩ := hsu
      have hby := Hby.out k
      have hby2 := Hby.out (k + 1)
      have hwl : b.ws.length ≤ 100000 := by omega
      have hat2 : (b.at_ ≤ y) := by omega
      rw [hat] at a0 hat2
      clear hb hb' hle
      go_wp2_with fail
      exact ⟨⟨k + 1, by omega, by simp, by rw [hsucc]; congr 1; omega, trivial⟩, by simp only [intOf]; omega⟩
    · have hkn : k = Yb.length := by omega
      subst hkn
      rw [List.take_length]
      have hne : (1 + bused Yb + (y - bused Yb) != y + 1) = false := by simp; omega
      have hb0 := bused_nonneg Yb
      by_cases hO : Ob = []
      · have hOl0 : Ob.length = 0 := by rw [hO]; rfl
        clear hO
        go_wp2_with fail
        go_loopw [10, 11] (fun nx i wr2 => ∃ k : Nat, k ≤ Ob.length ∧ i = .int .i64 ((Yb.length : Int) + k) ∧ nx = .int .i64 (y + 1 + bused (Ob.take k)) ∧ wr2 = wr) (fun nx i wr2 => Yb.length + Ob.length - (intOf i).toNat)
        case atStart => exact ⟨0, Nat.zero_le _, by simp, by simp [bused], rfl⟩
        case round =>
          obtain ⟨k, hk, rfl, rfl, rfl⟩ := hrel
          by_cases hlt : k < Ob.length
          · exact absurd hlt (by omega)
          · have hkn : k = Ob.length := by omega
            subst hkn
            rw [List.take_length]
            have heq : (y + 1 + bused Ob + (o - bused Ob) == y + o + 1) = true := by simp; omega
            have hbO := bused_nonneg Ob
            go_wp2_with fail
            rw [← HM.out]
            exact ⟨rfl, HX2.out⟩
      · obtain ⟨b, hb⟩ : ∃ b, Ob[0]? = some b := ⟨_, List.getElem?_eq_getElem (List.length_pos_iff.2 hO)⟩
        have hOl1 : 0 < Ob.length := List.length_pos_iff.2 hO
        have hb' : (Yb ++ Ob)[Yb.length]? = some b := by rw [List.getElem?_append_right (Nat.le_refl _), Nat.sub_self]; exact hb
        have hat := dense_get Hdo.out hb
        rw [List.take_zero, show bused [] = 0 from rfl, Int.add_zero] at hat
        obtain ⟨ad, rfl⟩ := HB.out.some (by rintro e; rw [e] at hb'; simp at hb')
        obtain ⟨A, hA⟩ : ∃ A, ad.add (Yb.length * 3) = A := ⟨_, rfl⟩
        obtain ⟨su, a0, a1, a2, hsu⟩ := HB.out.at_ hb' hA
        rw [hat] at a0
        clear hb hb' hO hat hsu a1 a2
        go_wp2_with fail
        clear a0 hA
        go_loopw [10, 11] (fun nx i wr2 => ∃ k : Nat, k ≤ Ob.length ∧ i = .int .i64 ((Yb.length : Int) + k) ∧ nx = .int .i64 (y + 1 + bused (Ob.take k)) ∧ wr2 = wr) (fun nx i wr2 => Yb.length + Ob.length - (intOf i).toNat)
        case atStart => exact ⟨0, Nat.zero_le _, by simp, by simp [bused], rfl⟩
        case round =>
          obtain ⟨k, hk, rfl, rfl, rfl⟩ := hrel
          by_cases hlt : k < Ob.length
          · obtain ⟨b, hb⟩ : ∃ b, Ob[k]? = some b := ⟨_, List.getElem?_eq_getElem hlt⟩
            have hb' : (Yb ++ Ob)[Yb.length + k]? = some b := by rw [List.getElem?_append_right (Nat.le_add_right _ _), Nat.add_sub_cancel_left]; exact hb
            have hat := dense_get Hdo.out hb
            have hle := (Hdo.out.mem (List.mem_of_getElem? hb)).2
            have hsucc := bused_take_succ hb
            obtain ⟨A, hA⟩ : ∃ A, ad.add ((Yb.length + k) * 3) = A := ⟨_, rfl⟩
            obtain ⟨su, a0, a1, a2, hsu⟩ := HB.out.at_ hb' hA
            obtain ⟨sa, sc, rfl, -⟩ := hsu
            have hbo := Hbo.out k
            have hbo2 := Hbo.out (k + 1)
            have hwl : b.ws.length ≤ 100000 := by omega
            rw [hat] at a0
            have hcast : ((Yb.length : Int) + (k : Int)) = ((Yb.length + k : Nat) : Int) := by omega
            rw [hcast]
            have hcond : (((Yb.length + k : Nat) : Int) < (Yb.length : Int) + (Ob.length : Int)) := by omega
            generalize hKK : Yb.length + k = KK at hcast hcond hb' hA ⊢
            clear hb hb' hle
            go_wp2_with fail
            exact ⟨⟨k + 1, by omega, by congr 1; omega, by rw [hsucc]; congr 1; omega, trivial⟩, by simp only [intOf]; omega⟩
          · have hkn : k = Ob.length := by omega
            subst hkn
            rw [List.take_length]
            have heq : (y + 1 + bused Ob + (o - bused Ob) == y + o + 1) = true := by simp; omega
            have hbO := bused_nonneg Ob
            go_wp2_with fail
            rw [← HM.out]
            exact ⟨rfl, HX2.out⟩
end Go.Proofs.Ytikigppfnhilhaa
