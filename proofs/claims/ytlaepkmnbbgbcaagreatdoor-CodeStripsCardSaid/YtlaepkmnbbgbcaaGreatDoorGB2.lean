/- operations: the table of the operations. The checks of operands, called. The checks of operands, called: an index of a table. -/
import Derived.Test.YtlaepkmnbbgbcaaGreatDoorGB1
import Derived.Deep.Cut
/- operations: the table of the operations. -/
namespace Go.Proofs.YtlaepkmnbbgbcaaGreatDoor
open Go.RowKit Go.Instr
set_option linter.unusedVariables false
set_option linter.unusedSimpArgs false
attribute [local go_sem] Oper.semAt_some

/-- An operation: its number, its name, what its operands must be. -/
structure Op1 where
  key : Int
  name : ByteArray
  a : Ck
  b : Ck
/-- The operations, the last one first. -/
def opT : List Op1 := [
  ⟨55, ⟨#[114, 111, 111, 116]⟩, .none, .none⟩,
  ⟨54, ⟨#[116, 114, 97, 112]⟩, (.btw 3 15), .none⟩,
  ⟨53, ⟨#[109, 97, 114, 107]⟩, (.btw 0 1999), .none⟩,
  ⟨52, ⟨#[103, 101, 116]⟩, .none, .none⟩,
  ⟨51, ⟨#[112, 117, 116]⟩, .none, .none⟩,
  ⟨50, ⟨#[99, 111, 110, 118, 101, 114, 116]⟩, (.btw 1 5), .none⟩,
  ⟨49, ⟨#[116, 119, 111]⟩, (.btw 3 17), .none⟩,
  ⟨48, ⟨#[111, 110, 101]⟩, (.btw 1 2), .none⟩,
  ⟨47, ⟨#[114, 101, 115, 116, 97, 114, 116]⟩, (.idx 103), .none⟩,
  ⟨46, ⟨#[108, 101, 97, 118, 101]⟩, (.idx 103), .none⟩,
  ⟨45, ⟨#[101, 110, 100]⟩, .none, .none⟩,
  ⟨44, ⟨#[108, 97, 98, 101, 108]⟩, (.idx 103), .none⟩,
  ⟨43, ⟨#[106, 117, 109, 112, 102, 97, 108, 115, 101]⟩, (.idx 102), .none⟩,
  ⟨42, ⟨#[106, 117, 109, 112]⟩, (.idx 102), .none⟩,
  ⟨41, ⟨#[115, 105, 103, 110, 97, 108]⟩, .none, .none⟩,
  ⟨40, ⟨#[119, 97, 105, 116]⟩, .none, .none⟩,
  ⟨39, ⟨#[112, 97, 117, 115, 101]⟩, .none, .none⟩,
  ⟨38, ⟨#[102, 111, 114, 107]⟩, .none, .none⟩,
  ⟨37, ⟨#[115, 117, 115, 112, 101, 110, 100]⟩, .none, .none⟩,
  ⟨36, ⟨#[114, 101, 116, 117, 114, 110]⟩, .none, .none⟩,
  ⟨35, ⟨#[105, 110, 110, 101, 114]⟩, .none, .none⟩,
  ⟨34, ⟨#[97, 116, 116, 97, 99, 104]⟩, .none, .none⟩,
  ⟨33, ⟨#[101, 120, 105, 116]⟩, .none, .none⟩,
  ⟨32, ⟨#[100, 111]⟩, .none, .none⟩,
  ⟨31, ⟨#[116, 97, 107, 101]⟩, .none, .none⟩,
  ⟨30, ⟨#[101, 110, 116, 101, 114]⟩, (.btw 0 199), .none⟩,
  ⟨29, ⟨#[115, 105, 122, 101]⟩, .none, .none⟩,
  ⟨28, ⟨#[114, 101, 115, 105, 122, 101]⟩, (.btw 1 8), .none⟩,
  ⟨27, ⟨#[114, 101, 112]⟩, (.btw 1 8), .none⟩,
  ⟨26, ⟨#[110, 101, 119]⟩, (.btw 0 2), .none⟩,
  ⟨25, ⟨#[115, 117, 98]⟩, .none, .none⟩,
  ⟨24, ⟨#[113, 117, 97, 108]⟩, .none, .none⟩,
  ⟨23, ⟨#[103, 111, 116]⟩, .none, .none⟩,
  ⟨22, ⟨#[112, 97, 116, 111, 102]⟩, .none, .none⟩,
  ⟨21, ⟨#[118, 105, 114, 116, 117, 97, 108]⟩, (.btw 0 1999), .none⟩,
  ⟨20, ⟨#[112, 97, 116, 116, 101, 114, 110]⟩, (.idx 104), .none⟩,
  ⟨19, ⟨#[110, 101, 101, 100]⟩, .none, .none⟩,
  ⟨18, ⟨#[115, 116, 111, 114, 101]⟩, .none, .none⟩,
  ⟨17, ⟨#[108, 111, 97, 100]⟩, .none, .none⟩,
  ⟨16, ⟨#[101, 108, 101, 109]⟩, (.btw 0 199), .none⟩,
  ⟨15, ⟨#[99, 101, 108, 108]⟩, (.btw 0 1499), .none⟩,
  ⟨14, ⟨#[111, 114, 105, 103, 105, 110]⟩, (.btw 0 39), .none⟩,
  ⟨13, ⟨#[115, 101, 108, 102]⟩, .none, .none⟩,
  ⟨12, ⟨#[115, 108, 105, 100, 101]⟩, (.btw 0 199), (.btw 0 199)⟩,
  ⟨11, ⟨#[112, 105, 99, 107]⟩, (.btw 0 199), .none⟩,
  ⟨10, ⟨#[112, 111, 112]⟩, .none, .none⟩,
  ⟨9, ⟨#[115, 101, 109]⟩, .none, .none⟩,
  ⟨8, ⟨#[110, 111, 116, 104, 105, 110, 103]⟩, .none, .none⟩,
  ⟨7, ⟨#[111, 98, 106, 101, 99, 116]⟩, .none, .none⟩,
  ⟨6, ⟨#[110, 111, 110, 101]⟩, .none, .none⟩,
  ⟨5, ⟨#[116, 101, 120, 116]⟩, .text, .none⟩,
  ⟨4, ⟨#[99, 104, 97, 114]⟩, (.btw 32 126), .none⟩,
  ⟨3, ⟨#[98, 111, 111, 108]⟩, (.btw 0 1), .none⟩,
  ⟨2, ⟨#[114, 101, 97, 108]⟩, (.idx 106), .none⟩,
  ⟨1, ⟨#[105, 110, 116]⟩, .int, .none⟩]
def RD (w : World) (m : Nat) (T : List Op1) : Prop := ∃ F, OpsAt w m F ∧ ∀ j, match T.find? (fun o => decide (o.key = j)) with
  | none => F j = none
  | some o => ∃ va vb, F j = some (.agg #[.string o.name, va, vb]) ∧ CkV w va o.a ∧ CkV w vb o.b
theorem CkV.keep {w w' : World} {v : Value} {c : Ck} {m : Nat} {es : Array MapEntry} {ck : Nat} (h : CkV w v c) (hx : Keeps (· = m) w w') (hm : w.heap[m]? = some (.map es ck)) : CkV w' v c := by
  have hne : ∀ {b : Nat} {cs : Array Value} {t : TypeId}, Blk w b cs t → ¬ b = m := fun hb e => by
    subst e; unfold Blk at hb; rw [hm] at hb; cases hb
  cases c with
  | none => exact h
  | btw lo hi => obtain ⟨b1, b2, e, h1, h2⟩ := h; exact ⟨b1, b2, e, hx.blk h1 (hne h1), hx.blk h2 (hne h2)⟩
  | idx f => obtain ⟨b, e, h1⟩ := h; exact ⟨b, e, hx.blk h1 (hne h1)⟩
  | int => exact h
  | text => exact h
theorem RD.ext {w w' : World} {m : Nat} {T : List Op1} (h : RD w m T) (hx : Keeps (fun _ => False) w w') : RD w' m T := by
  obtain ⟨F, h1, h2⟩ := h
  refine ⟨F, h1.keep hx id, fun j => ?_⟩
  have h3 := h2 j
  cases hf : T.find? (fun o => decide (o.key = j)) with
  | none => rw [hf] at h3; exact h3
  | some o =>
    rw [hf] at h3
    obtain ⟨va, vb, e1, e2, e3⟩ := h3
    exact ⟨va, vb, e1, e2.ext hx, e3.ext hx⟩
structure OS (w0 w : World) (m : Nat) (T : List Op1) (k z p l d : Value) : Prop where
  rd : RD w m T
  hk : CkV w k (.btw 0 199)
  hz : CkV w z (.btw 1 8)
  hp : CkV w p (.idx 102)
  hl : CkV w l (.idx 103)
  hd : CkV w d (.idx 104)
  ex : Keeps (fun _ => False) w0 w
  le : w0.heap.size ≤ m
theorem OS.ext {w0 w w' : World} {m : Nat} {T : List Op1} {k z p l d : Value} (h : OS w0 w m T k z p l d) (hx : Keeps (fun _ => False) w w') : OS w0 w' m T k z p l d :=
  ⟨h.rd.ext hx, h.hk.ext hx, h.hz.ext hx, h.hp.ext hx, h.hl.ext hx, h.hd.ext hx, h.ex.trans hx, h.le⟩
theorem wpList_ins {w0 w : World} {m : Nat} {T : List Op1} {k z p l d : Value} {ops : Array Oper} {rest : List Oper} {o : Oper} {a : Act} {Q : Exit → Act → World → Prop} (hgd : o.guard = none) (mo ko vo : Operand) (ho : o.op = .insert 111 mo ko vo)
    (hm : a.eval mo = .map (some m)) (j : Int) (hk : a.eval ko = .int .i64 j) (nm : ByteArray) (va vb : Value) (hv : a.eval vo = .agg #[.string nm, va, vb]) {ca cb : Ck} (hs : OS w0 w m T k z p l d) (h1 : CkV w va ca) (h2 : CkV w vb cb)
    (hn : ∀ w', OS w0 w' m (⟨j, nm, ca, cb⟩ :: T) k z p l d → wpList Tryz.prog ops Q rest (a.put o.dst undef) w') : wpList Tryz.prog ops Q (o :: rest) a w := by
  obtain ⟨F, hF, hall⟩ := hs.rd
  refine wpList_insert hgd mo ko vo ho m j _ hm hk hv hF fun w' hF' hkp => hn w' ?_
  obtain ⟨es, ck, hes, -, -⟩ := hF
  have kp : ∀ {v : Value} {c : Ck}, CkV w v c → CkV w' v c := fun h => h.keep hkp hes
  refine ⟨⟨_, hF', fun i => ?_⟩, kp hs.hk, kp hs.hz, kp hs.hp, kp hs.hl, kp hs.hd, hs.ex.trans' hkp fun i hi e => by have := hs.le; omega, hs.le⟩
  by_cases hi : j = i
  · subst hi
    simp only [List.find?_cons, decide_true]
    exact ⟨va, vb, by simp [upd], kp h1, kp h2⟩
  · have h3 := hall i
    simp only [List.find?_cons, decide_eq_false hi]
    have e0 : upd F j (.agg #[.string nm, va, vb]) i = F i := by unfold upd; rw [if_neg fun e => hi e.symm]
    rw [e0]
    cases hf : T.find? (fun o => decide (o.key = i)) with
    | none => rw [hf] at h3; exact h3
    | some o =>
      rw [hf] at h3
      obtain ⟨x, y, e1, e2, e3⟩ := h3
      exact ⟨x, y, e1, kp e2, kp e3⟩
set_option maxRecDepth 100000 in
theorem upon_ins {w0 w : World} {m : Nat} {T : List Op1} {k z p l d : Value} {o : Oper} {a : Act} {next : Act → World → Prop} {Q : Exit → Act → World → Prop} {j : Int} {nm : ByteArray} {va vb : Value} {ca cb : Ck} (hs : OS w0 w m T k z p l d) (h1 : CkV w va ca) (h2 : CkV w vb cb)
    (hn : ∀ w', OS w0 w' m (⟨j, nm, ca, cb⟩ :: T) k z p l d → next (a.put o.dst undef) w') :
    Oper.upon Tryz.prog o a next Q (((Instr.mapUpdate 111 (.map (some m)) (.int .i64 j) (.agg #[.string nm, va, vb])).run Tryz.prog w).andThen fun _ w' => Result.ok Next.skip w') := by
  obtain ⟨F, ⟨es, ck, e1, e2, e3⟩, hall⟩ := hs.rd
  obtain ⟨es', ck', hr, h4, h5, -, -⟩ := run_mapUpdate_int (P := Tryz.prog) Tryz.underlying111 Tryz.underlying3 m e2 j (.agg #[.string nm, va, vb])
  rw [hr w e1]
  have hkp : Keeps (· = m) w (w.putObj m (.map es' ck')) := (Keeps.refl (fun x => x = m) w).putObj (.inl rfl) _
  have kp : ∀ {v : Value} {c : Ck}, CkV w v c → CkV (w.putObj m (.map es' ck')) v c := fun h => h.keep hkp e1
  refine hn _ ⟨⟨upd F j (.agg #[.string nm, va, vb]), ⟨es', ck', by simp [World.putObj, (Array.getElem?_eq_some_iff.1 e1).1], h4, fun i => by rw [h5]; unfold upd; split <;> simp [e3]⟩, fun i => ?_⟩, kp hs.hk, kp hs.hz, kp hs.hp, kp hs.hl, kp hs.hd, hs.ex.trans' hkp fun i hi e => by have := hs.le; omega, hs.le⟩
  by_cases hi : j = i
  · subst hi
    simp only [List.find?_cons, decide_true]
    exact ⟨va, vb, by simp [upd], kp h1, kp h2⟩
  · have h3 := hall i
    simp only [List.find?_cons, decide_eq_false hi]
    have e0 : upd F j (.agg #[.string nm, va, vb]) i = F i := by unfold upd; rw [if_neg fun e => hi e.symm]
    rw [e0]
    cases hf : T.find? (fun o => decide (o.key = i)) with
    | none => rw [hf] at h3; exact h3
    | some o =>
      rw [hf] at h3
      obtain ⟨x, y, e1, e2, e3⟩ := h3
      exact ⟨x, y, e1, kp e2, kp e3⟩

def OpsR (w : World) (e : Ending) (w' : World) : Prop := ∃ m, e = .returned (.map (some m)) ∧ RD w' m opT ∧ w.heap.size ≤ m ∧ Keeps (fun _ => False) w w'
set_option maxRecDepth 100000 in
set_option maxHeartbeats 16000000 in
theorem operations_any (w : World) : Calls Tryz.prog 57 #[] w (OpsR w) := by
  generalize hM : OpsR w = M
  have HM := Lib.hid hM
  clear hM
  go_enter Tryz.func57, Tryz.ntmps57
  go_wp2_with fail
  refine (between_any 0 199 _).mono ?_
  rintro e x0 ⟨k, rfl, hc, hx⟩
  have HX0 := Lib.hid hx
  have HVk_0 := Lib.hid hc
  clear hc hx
  go_wp2_with fail
  refine (between_any 1 8 _).mono ?_
  rintro e x1 ⟨z, rfl, hc, hx⟩
  have HX1 := Lib.hid (HX0.out.trans hx)
  have HVk_1 := Lib.hid (HVk_0.out.ext hx)
  have HVz_1 := Lib.hid hc
  clear hc hx
  go_wp2_with fail
  refine (indexOf_any 102 _).mono ?_
  rintro e x2 ⟨p, rfl, hc, hx⟩
  have HX2 := Lib.hid (HX1.out.trans hx)
  have HVk_2 := Lib.hid (HVk_1.out.ext hx)
  have HVz_2 := Lib.hid (HVz_1.out.ext hx)
  have HVp_2 := Lib.hid hc
  clear hc hx
  go_wp2_with fail
  refine (indexOf_any 103 _).mono ?_
  rintro e x3 ⟨l, rfl, hc, hx⟩
  have HX3 := Lib.hid (HX2.out.trans hx)
  have HVk_3 := Lib.hid (HVk_2.out.ext hx)
  have HVz_3 := Lib.hid (HVz_2.out.ext hx)
  have HVp_3 := Lib.hid (HVp_2.out.ext hx)
  have HVl_3 := Lib.hid hc
  clear hc hx
  go_wp2_with fail
  refine (indexOf_any 104 _).mono ?_
  rintro e x4 ⟨d, rfl, hc, hx⟩
  have HX4 := Lib.hid (HX3.out.trans hx)
  have HVk_4 := Lib.hid (HVk_3.out.ext hx)
  have HVz_4 := Lib.hid (HVz_3.out.ext hx)
  have HVp_4 := Lib.hid (HVp_3.out.ext hx)
  have HVl_4 := Lib.hid (HVl_3.out.ext hx)
  have HVd_4 := Lib.hid hc
  clear hc hx
  obtain ⟨k1, k2, rfl, -, -⟩ := HVk_4.out
  obtain ⟨z1, z2, rfl, -, -⟩ := HVz_4.out
  obtain ⟨p1, rfl, -⟩ := HVp_4.out
  obtain ⟨l1, rfl, -⟩ := HVl_4.out
  obtain ⟨d1, rfl, -⟩ := HVd_4.out
  go_upto_region 5 with fail
  obtain ⟨m, hm⟩ : ∃ m, m = x4.heap.size := ⟨_, rfl⟩
  obtain ⟨y0, hy0⟩ : ∃ y, x4.alloc (.map #[] 0) = y := ⟨_, rfl⟩
  have hx4 : Keeps (fun _ => False) x4 y0 := by rw [← hy0]; exact (Keeps.refl _ x4).alloc _
  have hmm : (Instr.makeMap 111 none).run Tryz.prog x4 = .ok (.map (some m)) y0 := by rw [← hy0, hm]; rfl
  have hs : OS w y0 m [] _ _ _ _ _ := ⟨⟨fun _ => none, ⟨#[], 0, by rw [← hy0, hm]; exact World.alloc_heap_new _ _, IntEs.empty 0, fun j => rfl⟩, fun j => rfl⟩, HVk_4.out.ext hx4, HVz_4.out.ext hx4, HVp_4.out.ext hx4, HVl_4.out.ext hx4, HVd_4.out.ext hx4, HX4.out.trans hx4, by rw [hm]; exact HX4.out.size⟩
  have HS := Lib.hid hs
  clear hs hm hy0 hx4
  go_wp2_with fail
  rename_i a2 b2
  refine upon_ins HS.out (show CkV _ _ Ck.int from rfl) (show CkV _ _ Ck.none from rfl) ?_
  intro W hs
  refine b2 _ _ ?_
  clear b2 a2 HS
  have HS := Lib.hid hs
  clear hs
  go_wp2_with fail
  rename_i a2 b2
  refine (indexOf_any 106 _).mono ?_
  rintro e W ⟨v, rfl, hc, hx⟩
  have hc0 := hc
  obtain ⟨b1, rfl, -⟩ := hc0
  refine b2 _ _ ?_
  clear b2 a2
  have hs := HS.out.ext hx
  clear HS
  have HS := Lib.hid hs
  have HC := Lib.hid hc
  clear hs hc hx
  go_wp2_with fail
  rename_i a2 b2
  refine upon_ins HS.out HC.out (show CkV _ _ Ck.none from rfl) ?_
  intro W hs
  refine b2 _ _ ?_
  clear b2 a2 HS HC
  have HS := Lib.hid hs
  clear hs
  go_wp2_with fail
  rename_i a2 b2
  refine (between_any 0 1 _).mono ?_
  rintro e W ⟨v, rfl, hc, hx⟩
  have hc0 := hc
  obtain ⟨b1, b2x, rfl, -, -⟩ := hc0
  refine b2 _ _ ?_
  clear b2 a2
  have hs := HS.out.ext hx
  clear HS
  have HS := Lib.hid hs
  have HC := Lib.hid hc
  clear hs hc hx
  go_wp2_with fail
  rename_i a2 b2
  refine upon_ins HS.out HC.out (show CkV _ _ Ck.none from rfl) ?_
  intro W hs
  refine b2 _ _ ?_
  clear b2 a2 HS HC
  have HS := Lib.hid hs
  clear hs
  go_wp2_with fail
  rename_i a2 b2
  refine (between_any 32 126 _).mono ?_
  rintro e W ⟨v, rfl, hc, hx⟩
  have hc0 := hc
  obtain ⟨b1, b2x, rfl, -, -⟩ := hc0
  refine b2 _ _ ?_
  clear b2 a2
  have hs := HS.out.ext hx
  clear HS
  have HS := Lib.hid hs
  have HC := Lib.hid hc
  clear hs hc hx
  go_wp2_with fail
  rename_i a2 b2
  refine upon_ins HS.out HC.out (show CkV _ _ Ck.none from rfl) ?_
  intro W hs
  refine b2 _ _ ?_
  clear b2 a2 HS HC
  have HS := Lib.hid hs
  clear hs
  go_wp2_with fail
  rename_i a2 b2
  refine upon_ins HS.out (show CkV _ _ Ck.text from rfl) (show CkV _ _ Ck.none from rfl) ?_
  intro W hs
  refine b2 _ _ ?_
  clear b2 a2 HS
  have HS := Lib.hid hs
  clear hs
  go_wp2_with fail
  rename_i a2 b2
  refine upon_ins HS.out (show CkV _ _ Ck.none from rfl) (show CkV _ _ Ck.none from rfl) ?_
  intro W hs
  refine b2 _ _ ?_
  clear b2 a2 HS
  have HS := Lib.hid hs
  clear hs
  go_wp2_with fail
  rename_i a2 b2
  refine upon_ins HS.out (show CkV _ _ Ck.none from rfl) (show CkV _ _ Ck.none from rfl) ?_
  intro W hs
  refine b2 _ _ ?_
  clear b2 a2 HS
  have HS := Lib.hid hs
  clear hs
  go_wp2_with fail
  rename_i a2 b2
  refine upon_ins HS.out (show CkV _ _ Ck.none from rfl) (show CkV _ _ Ck.none from rfl) ?_
  intro W hs
  refine b2 _ _ ?_
  clear b2 a2 HS
  have HS := Lib.hid hs
  clear hs
  go_wp2_with fail
  rename_i a2 b2
  refine upon_ins HS.out (show CkV _ _ Ck.none from rfl) (show CkV _ _ Ck.none from rfl) ?_
  intro W hs
  refine b2 _ _ ?_
  clear b2 a2 HS
  have HS := Lib.hid hs
  clear hs
  go_wp2_with fail
  rename_i a2 b2
  refine upon_ins HS.out (show CkV _ _ Ck.none from rfl) (show CkV _ _ Ck.none from rfl) ?_
  intro W hs
  refine b2 _ _ ?_
  clear b2 a2 HS
  have HS := Lib.hid hs
  clear hs
  go_wp2_with fail
  rename_i a2 b2
  refine upon_ins HS.out HS.out.hk (show CkV _ _ Ck.none from rfl) ?_
  intro W hs
  refine b2 _ _ ?_
  clear b2 a2 HS
  have HS := Lib.hid hs
  clear hs
  go_wp2_with fail
  rename_i a2 b2
  refine upon_ins HS.out HS.out.hk HS.out.hk ?_
  intro W hs
  refine b2 _ _ ?_
  clear b2 a2 HS
  have HS := Lib.hid hs
  clear hs
  go_wp2_with fail
  rename_i a2 b2
  refine upon_ins HS.out (show CkV _ _ Ck.none from rfl) (show CkV _ _ Ck.none from rfl) ?_
  intro W hs
  refine b2 _ _ ?_
  clear b2 a2 HS
  have HS := Lib.hid hs
  clear hs
  go_wp2_with fail
  rename_i a2 b2
  refine (between_any 0 39 _).mono ?_
  rintro e W ⟨v, rfl, hc, hx⟩
  have hc0 := hc
  obtain ⟨b1, b2x, rfl, -, -⟩ := hc0
  refine b2 _ _ ?_
  clear b2 a2
  have hs := HS.out.ext hx
  clear HS
  have HS := Lib.hid hs
  have HC := Lib.hid hc
  clear hs hc hx
  go_wp2_with fail
  rename_i a2 b2
  refine upon_ins HS.out HC.out (show CkV _ _ Ck.none from rfl) ?_
  intro W hs
  refine b2 _ _ ?_
  clear b2 a2 HS HC
  have HS := Lib.hid hs
  clear hs
  go_wp2_with fail
  rename_i a2 b2
  refine (between_any 0 1499 _).mono ?_
  rintro e W ⟨v, rfl, hc, hx⟩
  have hc0 := hc
  obtain ⟨b1, b2x, rfl, -, -⟩ := hc0
  refine b2 _ _ ?_
  clear b2 a2
  have hs := HS.out.ext hx
  clear HS
  have HS := Lib.hid hs
  have HC := Lib.hid hc
  clear hs hc hx
  go_wp2_with fail
  rename_i a2 b2
  refine upon_ins HS.out HC.out (show CkV _ _ Ck.none from rfl) ?_
  intro W hs
  refine b2 _ _ ?_
  clear b2 a2 HS HC
  have HS := Lib.hid hs
  clear hs
  go_wp2_with fail
  rename_i a2 b2
  refine upon_ins HS.out HS.out.hk (show CkV _ _ Ck.none from rfl) ?_
  intro W hs
  refine b2 _ _ ?_
  clear b2 a2 HS
  have HS := Lib.hid hs
  clear hs
  go_wp2_with fail
  rename_i a2 b2
  refine upon_ins HS.out (show CkV _ _ Ck.none from rfl) (show CkV _ _ Ck.none from rfl) ?_
  intro W hs
  refine b2 _ _ ?_
  clear b2 a2 HS
  have HS := Lib.hid hs
  clear hs
  go_wp2_with fail
  rename_i a2 b2
  refine upon_ins HS.out (show CkV _ _ Ck.none from rfl) (show CkV _ _ Ck.none from rfl) ?_
  intro W hs
  refine b2 _ _ ?_
  clear b2 a2 HS
  have HS := Lib.hid hs
  clear hs
  go_wp2_with fail
  rename_i a2 b2
  refine upon_ins HS.out (show CkV _ _ Ck.none from rfl) (show CkV _ _ Ck.none from rfl) ?_
  intro W hs
  refine b2 _ _ ?_
  clear b2 a2 HS
  have HS := Lib.hid hs
  clear hs
  go_wp2_with fail
  rename_i a2 b2
  refine upon_ins HS.out HS.out.hd (show CkV _ _ Ck.none from rfl) ?_
  intro W hs
  refine b2 _ _ ?_
  clear b2 a2 HS
  have HS := Lib.hid hs
  clear hs
  go_wp2_with fail
  rename_i a2 b2
  refine (between_any 0 1999 _).mono ?_
  rintro e W ⟨v, rfl, hc, hx⟩
  have hc0 := hc
  obtain ⟨b1, b2x, rfl, -, -⟩ := hc0
  refine b2 _ _ ?_
  clear b2 a2
  have hs := HS.out.ext hx
  clear HS
  have HS := Lib.hid hs
  have HC := Lib.hid hc
  clear hs hc hx
  go_wp2_with fail
  rename_i a2 b2
  refine upon_ins HS.out HC.out (show CkV _ _ Ck.none from rfl) ?_
  intro W hs
  refine b2 _ _ ?_
  clear b2 a2 HS HC
  have HS := Lib.hid hs
  clear hs
  go_wp2_with fail
  rename_i a2 b2
  refine upon_ins HS.out (show CkV _ _ Ck.none from rfl) (show CkV _ _ Ck.none from rfl) ?_
  intro W hs
  refine b2 _ _ ?_
  clear b2 a2 HS
  have HS := Lib.hid hs
  clear hs
  go_wp2_with fail
  rename_i a2 b2
  refine upon_ins HS.out (show CkV _ _ Ck.none from rfl) (show CkV _ _ Ck.none from rfl) ?_
  intro W hs
  refine b2 _ _ ?_
  clear b2 a2 HS
  have HS := Lib.hid hs
  clear hs
  go_wp2_with fail
  rename_i a2 b2
  refine upon_ins HS.out (show CkV _ _ Ck.none from rfl) (show CkV _ _ Ck.none from rfl) ?_
  intro W hs
  refine b2 _ _ ?_
  clear b2 a2 HS
  have HS := Lib.hid hs
  clear hs
  go_wp2_with fail
  rename_i a2 b2
  refine upon_ins HS.out (show CkV _ _ Ck.none from rfl) (show CkV _ _ Ck.none from rfl) ?_
  intro W hs
  refine b2 _ _ ?_
  clear b2 a2 HS
  have HS := Lib.hid hs
  clear hs
  go_wp2_with fail
  rename_i a2 b2
  refine (between_any 0 2 _).mono ?_
  rintro e W ⟨v, rfl, hc, hx⟩
  have hc0 := hc
  obtain ⟨b1, b2x, rfl, -, -⟩ := hc0
  refine b2 _ _ ?_
  clear b2 a2
  have hs := HS.out.ext hx
  clear HS
  have HS := Lib.hid hs
  have HC := Lib.hid hc
  clear hs hc hx
  go_wp2_with fail
  rename_i a2 b2
  refine upon_ins HS.out HC.out (show CkV _ _ Ck.none from rfl) ?_
  intro W hs
  refine b2 _ _ ?_
  clear b2 a2 HS HC
  have HS := Lib.hid hs
  clear hs
  go_wp2_with fail
  rename_i a2 b2
  refine upon_ins HS.out HS.out.hz (show CkV _ _ Ck.none from rfl) ?_
  intro W hs
  refine b2 _ _ ?_
  clear b2 a2 HS
  have HS := Lib.hid hs
  clear hs
  go_wp2_with fail
  rename_i a2 b2
  refine upon_ins HS.out HS.out.hz (show CkV _ _ Ck.none from rfl) ?_
  intro W hs
  refine b2 _ _ ?_
  clear b2 a2 HS
  have HS := Lib.hid hs
  clear hs
  go_wp2_with fail
  rename_i a2 b2
  refine upon_ins HS.out (show CkV _ _ Ck.none from rfl) (show CkV _ _ Ck.none from rfl) ?_
  intro W hs
  refine b2 _ _ ?_
  clear b2 a2 HS
  have HS := Lib.hid hs
  clear hs
  go_wp2_with fail
  rename_i a2 b2
  refine upon_ins HS.out HS.out.hk (show CkV _ _ Ck.none from rfl) ?_
  intro W hs
  refine b2 _ _ ?_
  clear b2 a2 HS
  have HS := Lib.hid hs
  clear hs
  go_wp2_with fail
  rename_i a2 b2
  refine upon_ins HS.out (show CkV _ _ Ck.none from rfl) (show CkV _ _ Ck.none from rfl) ?_
  intro W hs
  refine b2 _ _ ?_
  clear b2 a2 HS
  have HS := Lib.hid hs
  clear hs
  go_wp2_with fail
  rename_i a2 b2
  refine upon_ins HS.out (show CkV _ _ Ck.none from rfl) (show CkV _ _ Ck.none from rfl) ?_
  intro W hs
  refine b2 _ _ ?_
  clear b2 a2 HS
  have HS := Lib.hid hs
  clear hs
  go_wp2_with fail
  rename_i a2 b2
  refine upon_ins HS.out (show CkV _ _ Ck.none from rfl) (show CkV _ _ Ck.none from rfl) ?_
  intro W hs
  refine b2 _ _ ?_
  clear b2 a2 HS
  have HS := Lib.hid hs
  clear hs
  go_wp2_with fail
  rename_i a2 b2
  refine upon_ins HS.out (show CkV _ _ Ck.none from rfl) (show CkV _ _ Ck.none from rfl) ?_
  intro W hs
  refine b2 _ _ ?_
  clear b2 a2 HS
  have HS := Lib.hid hs
  clear hs
  go_wp2_with fail
  rename_i a2 b2
  refine upon_ins HS.out (show CkV _ _ Ck.none from rfl) (show CkV _ _ Ck.none from rfl) ?_
  intro W hs
  refine b2 _ _ ?_
  clear b2 a2 HS
  have HS := Lib.hid hs
  clear hs
  go_wp2_with fail
  rename_i a2 b2
  refine upon_ins HS.out (show CkV _ _ Ck.none from rfl) (show CkV _ _ Ck.none from rfl) ?_
  intro W hs
  refine b2 _ _ ?_
  clear b2 a2 HS
  have HS := Lib.hid hs
  clear hs
  go_wp2_with fail
  rename_i a2 b2
  refine upon_ins HS.out (show CkV _ _ Ck.none from rfl) (show CkV _ _ Ck.none from rfl) ?_
  intro W hs
  refine b2 _ _ ?_
  clear b2 a2 HS
  have HS := Lib.hid hs
  clear hs
  go_wp2_with fail
  rename_i a2 b2
  refine upon_ins HS.out (show CkV _ _ Ck.none from rfl) (show CkV _ _ Ck.none from rfl) ?_
  intro W hs
  refine b2 _ _ ?_
  clear b2 a2 HS
  have HS := Lib.hid hs
  clear hs
  go_wp2_with fail
  rename_i a2 b2
  refine upon_ins HS.out (show CkV _ _ Ck.none from rfl) (show CkV _ _ Ck.none from rfl) ?_
  intro W hs
  refine b2 _ _ ?_
  clear b2 a2 HS
  have HS := Lib.hid hs
  clear hs
  go_wp2_with fail
  rename_i a2 b2
  refine upon_ins HS.out (show CkV _ _ Ck.none from rfl) (show CkV _ _ Ck.none from rfl) ?_
  intro W hs
  refine b2 _ _ ?_
  clear b2 a2 HS
  have HS := Lib.hid hs
  clear hs
  go_wp2_with fail
  rename_i a2 b2
  refine upon_ins HS.out (show CkV _ _ Ck.none from rfl) (show CkV _ _ Ck.none from rfl) ?_
  intro W hs
  refine b2 _ _ ?_
  clear b2 a2 HS
  have HS := Lib.hid hs
  clear hs
  go_wp2_with fail
  rename_i a2 b2
  refine upon_ins HS.out HS.out.hp (show CkV _ _ Ck.none from rfl) ?_
  intro W hs
  refine b2 _ _ ?_
  clear b2 a2 HS
  have HS := Lib.hid hs
  clear hs
  go_wp2_with fail
  rename_i a2 b2
  refine upon_ins HS.out HS.out.hp (show CkV _ _ Ck.none from rfl) ?_
  intro W hs
  refine b2 _ _ ?_
  clear b2 a2 HS
  have HS := Lib.hid hs
  clear hs
  go_wp2_with fail
  rename_i a2 b2
  refine upon_ins HS.out HS.out.hl (show CkV _ _ Ck.none from rfl) ?_
  intro W hs
  refine b2 _ _ ?_
  clear b2 a2 HS
  have HS := Lib.hid hs
  clear hs
  go_wp2_with fail
  rename_i a2 b2
  refine upon_ins HS.out (show CkV _ _ Ck.none from rfl) (show CkV _ _ Ck.none from rfl) ?_
  intro W hs
  refine b2 _ _ ?_
  clear b2 a2 HS
  have HS := Lib.hid hs
  clear hs
  go_wp2_with fail
  rename_i a2 b2
  refine upon_ins HS.out HS.out.hl (show CkV _ _ Ck.none from rfl) ?_
  intro W hs
  refine b2 _ _ ?_
  clear b2 a2 HS
  have HS := Lib.hid hs
  clear hs
  go_wp2_with fail
  rename_i a2 b2
  refine upon_ins HS.out HS.out.hl (show CkV _ _ Ck.none from rfl) ?_
  intro W hs
  refine b2 _ _ ?_
  clear b2 a2 HS
  have HS := Lib.hid hs
  clear hs
  go_wp2_with fail
  rename_i a2 b2
  refine (between_any 1 2 _).mono ?_
  rintro e W ⟨v, rfl, hc, hx⟩
  have hc0 := hc
  obtain ⟨b1, b2x, rfl, -, -⟩ := hc0
  refine b2 _ _ ?_
  clear b2 a2
  have hs := HS.out.ext hx
  clear HS
  have HS := Lib.hid hs
  have HC := Lib.hid hc
  clear hs hc hx
  go_wp2_with fail
  rename_i a2 b2
  refine upon_ins HS.out HC.out (show CkV _ _ Ck.none from rfl) ?_
  intro W hs
  refine b2 _ _ ?_
  clear b2 a2 HS HC
  have HS := Lib.hid hs
  clear hs
  go_wp2_with fail
  rename_i a2 b2
  refine (between_any 3 17 _).mono ?_
  rintro e W ⟨v, rfl, hc, hx⟩
  have hc0 := hc
  obtain ⟨b1, b2x, rfl, -, -⟩ := hc0
  refine b2 _ _ ?_
  clear b2 a2
  have hs := HS.out.ext hx
  clear HS
  have HS := Lib.hid hs
  have HC := Lib.hid hc
  clear hs hc hx
  go_wp2_with fail
  rename_i a2 b2
  refine upon_ins HS.out HC.out (show CkV _ _ Ck.none from rfl) ?_
  intro W hs
  refine b2 _ _ ?_
  clear b2 a2 HS HC
  have HS := Lib.hid hs
  clear hs
  go_wp2_with fail
  rename_i a2 b2
  refine (between_any 1 5 _).mono ?_
  rintro e W ⟨v, rfl, hc, hx⟩
  have hc0 := hc
  obtain ⟨b1, b2x, rfl, -, -⟩ := hc0
  refine b2 _ _ ?_
  clear b2 a2
  have hs := HS.out.ext hx
  clear HS
  have HS := Lib.hid hs
  have HC := Lib.hid hc
  clear hs hc hx
  go_wp2_with fail
  rename_i a2 b2
  refine upon_ins HS.out HC.out (show CkV _ _ Ck.none from rfl) ?_
  intro W hs
  refine b2 _ _ ?_
  clear b2 a2 HS HC
  have HS := Lib.hid hs
  clear hs
  go_wp2_with fail
  rename_i a2 b2
  refine upon_ins HS.out (show CkV _ _ Ck.none from rfl) (show CkV _ _ Ck.none from rfl) ?_
  intro W hs
  refine b2 _ _ ?_
  clear b2 a2 HS
  have HS := Lib.hid hs
  clear hs
  go_wp2_with fail
  rename_i a2 b2
  refine upon_ins HS.out (show CkV _ _ Ck.none from rfl) (show CkV _ _ Ck.none from rfl) ?_
  intro W hs
  refine b2 _ _ ?_
  clear b2 a2 HS
  have HS := Lib.hid hs
  clear hs
  go_wp2_with fail
  rename_i a2 b2
  refine (between_any 0 1999 _).mono ?_
  rintro e W ⟨v, rfl, hc, hx⟩
  have hc0 := hc
  obtain ⟨b1, b2x, rfl, -, -⟩ := hc0
  refine b2 _ _ ?_
  clear b2 a2
  have hs := HS.out.ext hx
  clear HS
  have HS := Lib.hid hs
  have HC := Lib.hid hc
  clear hs hc hx
  go_wp2_with fail
  rename_i a2 b2
  refine upon_ins HS.out HC.out (show CkV _ _ Ck.none from rfl) ?_
  intro W hs
  refine b2 _ _ ?_
  clear b2 a2 HS HC
  have HS := Lib.hid hs
  clear hs
  go_wp2_with fail
  rename_i a2 b2
  refine (between_any 3 15 _).mono ?_
  rintro e W ⟨v, rfl, hc, hx⟩
  have hc0 := hc
  obtain ⟨b1, b2x, rfl, -, -⟩ := hc0
  refine b2 _ _ ?_
  clear b2 a2
  have hs := HS.out.ext hx
  clear HS
  have HS := Lib.hid hs
  have HC := Lib.hid hc
  clear hs hc hx
  go_wp2_with fail
  rename_i a2 b2
  refine upon_ins HS.out HC.out (show CkV _ _ Ck.none from rfl) ?_
  intro W hs
  refine b2 _ _ ?_
  clear b2 a2 HS HC
  have HS := Lib.hid hs
  clear hs
  go_wp2_with fail
  rename_i a2 b2
  refine upon_ins HS.out (show CkV _ _ Ck.none from rfl) (show CkV _ _ Ck.none from rfl) ?_
  intro W hs
  refine b2 _ _ ?_
  clear b2 a2 HS
  have HS := Lib.hid hs
  clear hs
  go_wp2_with fail
  rw [← HM.out]
  exact ⟨m, rfl, HS.out.rd, HS.out.le, HS.out.ex⟩
end Go.Proofs.YtlaepkmnbbgbcaaGreatDoor
/- The checks of operands, called. -/
namespace Go.Proofs.YtlaepkmnbbgbcaaGreatDoor
open Go.RowKit Go.Instr
set_option linter.unusedVariables false
set_option linter.unusedSimpArgs false
attribute [local go_sem] Oper.semAt_some

/-- A value of type Code: its five lists. -/
def codeV (d l t r i : Value) : Value := .agg #[d, l, t, r, i]
theorem between_call {w : World} {b1 b2 : Nat} {lo hi : Int} (h1 : Blk w b1 #[.int .i64 lo] 3) (h2 : Blk w b2 #[.int .i64 hi] 3) (da la ta ra ia : Option Addr) (dn ln tn rn ino dc lc tc rc ic : Nat) (n : Int) :
    Calls Tryz.prog 139 #[codeV (.slice da dn dc) (.slice la ln lc) (.slice ta tn tc) (.slice ra rn rc) (.slice ia ino ic), .int .i64 n, .pointer (some ⟨b1, 0, none⟩), .pointer (some ⟨b2, 0, none⟩)] w fun e w' => e = .returned (.bool (decide (lo ≤ n ∧ n ≤ hi))) ∧ Keeps (fun _ => False) w w' := by
  obtain ⟨W1, hW1⟩ : ∃ W1, w.alloc (.cells #[.slice da dn dc, .slice la ln lc, .slice ta tn tc, .slice ra rn rc, .slice ia ino ic] 28) = W1 := ⟨_, rfl⟩
  have hx : Keeps (fun _ => False) w W1 := by rw [← hW1]; exact (Keeps.refl _ w).alloc _
  have c1 : W1.cell? ⟨b1, 0, none⟩ = some (.int .i64 lo) := ((hx.blk h1 id).cell 0).trans rfl
  have c2 : W1.cell? ⟨b2, 0, none⟩ = some (.int .i64 hi) := ((hx.blk h2 id).cell 0).trans rfl
  have HX := Lib.hid hx
  unfold codeV
  clear hx h1 h2
  by_cases k1 : lo ≤ n
  · by_cases k2 : n ≤ hi
    · go_enter Tryz.func139, Tryz.ntmps139
      go_wp2
      go_ret
      exact ⟨by simp [k1, k2], HX.out⟩
    · go_enter Tryz.func139, Tryz.ntmps139
      go_wp2
      go_ret
      exact ⟨by simp [k1, k2], HX.out⟩
  · go_enter Tryz.func139, Tryz.ntmps139
    go_wp2
    go_ret
    exact ⟨by simp; omega, HX.out⟩
end Go.Proofs.YtlaepkmnbbgbcaaGreatDoor
/- The checks of operands, called: an index of a table. -/
namespace Go.Proofs.YtlaepkmnbbgbcaaGreatDoor
open Go.RowKit Go.Instr
set_option linter.unusedVariables false
set_option linter.unusedSimpArgs false
attribute [local go_sem] Oper.semAt_some

theorem len1 (da la ta ra ia : Option Addr) (dn ln tn rn ino dc lc tc rc ic : Nat) (hl : ino ≤ 1000000) (w : World) :
    Calls Tryz.prog 102 #[codeV (.slice da dn dc) (.slice la ln lc) (.slice ta tn tc) (.slice ra rn rc) (.slice ia ino ic)] w fun e w' => e = .returned (.int .i64 (ino : Nat)) ∧ Keeps (fun _ => False) w w' := by
  unfold codeV
  go_enter Tryz.func102, Tryz.ntmps102
  go_wp2
  go_ret
  exact ⟨rfl, (Keeps.refl _ w).alloc _⟩
theorem len2 (da la ta ra ia : Option Addr) (dn ln tn rn ino dc lc tc rc ic : Nat) (hl : ln ≤ 1000000) (w : World) :
    Calls Tryz.prog 103 #[codeV (.slice da dn dc) (.slice la ln lc) (.slice ta tn tc) (.slice ra rn rc) (.slice ia ino ic)] w fun e w' => e = .returned (.int .i64 (ln : Nat)) ∧ Keeps (fun _ => False) w w' := by
  unfold codeV
  go_enter Tryz.func103, Tryz.ntmps103
  go_wp2
  go_ret
  exact ⟨rfl, (Keeps.refl _ w).alloc _⟩
theorem len3 (da la ta ra ia : Option Addr) (dn ln tn rn ino dc lc tc rc ic : Nat) (hl : dn ≤ 1000000) (w : World) :
    Calls Tryz.prog 104 #[codeV (.slice da dn dc) (.slice la ln lc) (.slice ta tn tc) (.slice ra rn rc) (.slice ia ino ic)] w fun e w' => e = .returned (.int .i64 (dn : Nat)) ∧ Keeps (fun _ => False) w w' := by
  unfold codeV
  go_enter Tryz.func104, Tryz.ntmps104
  go_wp2
  go_ret
  exact ⟨rfl, (Keeps.refl _ w).alloc _⟩
theorem len4 (da la ta ra ia : Option Addr) (dn ln tn rn ino dc lc tc rc ic : Nat) (hl : rn ≤ 1000000) (w : World) :
    Calls Tryz.prog 106 #[codeV (.slice da dn dc) (.slice la ln lc) (.slice ta tn tc) (.slice ra rn rc) (.slice ia ino ic)] w fun e w' => e = .returned (.int .i64 (rn : Nat)) ∧ Keeps (fun _ => False) w w' := by
  unfold codeV
  go_enter Tryz.func106, Tryz.ntmps106
  go_wp2
  go_ret
  exact ⟨rfl, (Keeps.refl _ w).alloc _⟩
theorem index1_call {w : World} {b : Nat} (hb : Blk w b #[.func (.func 102) #[] #[]] 152) (da la ta ra ia : Option Addr) (dn ln tn rn ino dc lc tc rc ic : Nat) (hl : ino ≤ 1000000) (n : Int) :
    Calls Tryz.prog 140 #[codeV (.slice da dn dc) (.slice la ln lc) (.slice ta tn tc) (.slice ra rn rc) (.slice ia ino ic), .int .i64 n, .pointer (some ⟨b, 0, none⟩)] w fun e w' => e = .returned (.bool (decide (0 ≤ n ∧ n < (ino : Nat)))) ∧ Keeps (fun _ => False) w w' := by
  obtain ⟨W1, hW1⟩ : ∃ W1, w.alloc (.cells #[.slice da dn dc, .slice la ln lc, .slice ta tn tc, .slice ra rn rc, .slice ia ino ic] 28) = W1 := ⟨_, rfl⟩
  obtain ⟨bx, hbx⟩ : ∃ bx, w.heap.size = bx := ⟨_, rfl⟩
  have hx : Keeps (fun _ => False) w W1 := by rw [← hW1]; exact (Keeps.refl _ w).alloc _
  have hB : Blk W1 bx #[.slice da dn dc, .slice la ln lc, .slice ta tn tc, .slice ra rn rc, .slice ia ino ic] 28 := by rw [← hW1, ← hbx]; exact Blk.new w _ _
  have c1 : W1.cell? ⟨b, 0, none⟩ = some (.func (.func 102) #[] #[]) := ((hx.blk hb id).cell 0).trans rfl
  have x0 : W1.cell? ⟨bx, 0, none⟩ = some (.slice da dn dc) := (hB.cell 0).trans rfl
  have x1 : W1.cell? ⟨bx, 1, none⟩ = some (.slice la ln lc) := (hB.cell 1).trans rfl
  have x2 : W1.cell? ⟨bx, 2, none⟩ = some (.slice ta tn tc) := (hB.cell 2).trans rfl
  have x3 : W1.cell? ⟨bx, 3, none⟩ = some (.slice ra rn rc) := (hB.cell 3).trans rfl
  have x4 : W1.cell? ⟨bx, 4, none⟩ = some (.slice ia ino ic) := (hB.cell 4).trans rfl
  have HX := Lib.hid hx
  have HC := Lib.hid (len1 da la ta ra ia dn ln tn rn ino dc lc tc rc ic hl W1)
  unfold codeV at HC ⊢
  clear hx hb hB
  by_cases k1 : 0 ≤ n
  · by_cases k2 : n < (ino : Nat)
    · go_enter Tryz.func140, Tryz.ntmps140
      go_upto_region 1 with fail
      try rw [hW1]
      try rw [hbx]
      clear hW1 hbx
      go_wp2_with (go_at_call 102; refine HC.out.mono ?_; rintro e w2 ⟨rfl, hx2⟩; have HX2 := Lib.hid (HX.out.trans hx2); clear hx2)
      go_ret
      exact ⟨by simp; omega, HX2.out⟩
    · go_enter Tryz.func140, Tryz.ntmps140
      go_upto_region 1 with fail
      try rw [hW1]
      try rw [hbx]
      clear hW1 hbx
      go_wp2_with (go_at_call 102; refine HC.out.mono ?_; rintro e w2 ⟨rfl, hx2⟩; have HX2 := Lib.hid (HX.out.trans hx2); clear hx2)
      go_ret
      exact ⟨by simp; omega, HX2.out⟩
  · go_enter Tryz.func140, Tryz.ntmps140
    go_upto_region 1 with fail
    try rw [hW1]
    try rw [hbx]
    clear hW1 hbx
    go_wp2
    go_ret
    exact ⟨by simp; omega, HX.out⟩
theorem index2_call {w : World} {b : Nat} (hb : Blk w b #[.func (.func 103) #[] #[]] 152) (da la ta ra ia : Option Addr) (dn ln tn rn ino dc lc tc rc ic : Nat) (hl : ln ≤ 1000000) (n : Int) :
    Calls Tryz.prog 140 #[codeV (.slice da dn dc) (.slice la ln lc) (.slice ta tn tc) (.slice ra rn rc) (.slice ia ino ic), .int .i64 n, .pointer (some ⟨b, 0, none⟩)] w fun e w' => e = .returned (.bool (decide (0 ≤ n ∧ n < (ln : Nat)))) ∧ Keeps (fun _ => False) w w' := by
  obtain ⟨W1, hW1⟩ : ∃ W1, w.alloc (.cells #[.slice da dn dc, .slice la ln lc, .slice ta tn tc, .slice ra rn rc, .slice ia ino ic] 28) = W1 := ⟨_, rfl⟩
  obtain ⟨bx, hbx⟩ : ∃ bx, w.heap.size = bx := ⟨_, rfl⟩
  have hx : Keeps (fun _ => False) w W1 := by rw [← hW1]; exact (Keeps.refl _ w).alloc _
  have hB : Blk W1 bx #[.slice da dn dc, .slice la ln lc, .slice ta tn tc, .slice ra rn rc, .slice ia ino ic] 28 := by rw [← hW1, ← hbx]; exact Blk.new w _ _
  have c1 : W1.cell? ⟨b, 0, none⟩ = some (.func (.func 103) #[] #[]) := ((hx.blk hb id).cell 0).trans rfl
  have x0 : W1.cell? ⟨bx, 0, none⟩ = some (.slice da dn dc) := (hB.cell 0).trans rfl
  have x1 : W1.cell? ⟨bx, 1, none⟩ = some (.slice la ln lc) := (hB.cell 1).trans rfl
  have x2 : W1.cell? ⟨bx, 2, none⟩ = some (.slice ta tn tc) := (hB.cell 2).trans rfl
  have x3 : W1.cell? ⟨bx, 3, none⟩ = some (.slice ra rn rc) := (hB.cell 3).trans rfl
  have x4 : W1.cell? ⟨bx, 4, none⟩ = some (.slice ia ino ic) := (hB.cell 4).trans rfl
  have HX := Lib.hid hx
  have HC := Lib.hid (len2 da la ta ra ia dn ln tn rn ino dc lc tc rc ic hl W1)
  unfold codeV at HC ⊢
  clear hx hb hB
  by_cases k1 : 0 ≤ n
  · by_cases k2 : n < (ln : Nat)
    · go_enter Tryz.func140, Tryz.ntmps140
      go_upto_region 1 with fail
      try rw [hW1]
      try rw [hbx]
      clear hW1 hbx
      go_wp2_with (go_at_call 103; refine HC.out.mono ?_; rintro e w2 ⟨rfl, hx2⟩; have HX2 := Lib.hid (HX.out.trans hx2); clear hx2)
      go_ret
      exact ⟨by simp; omega, HX2.out⟩
    · go_enter Tryz.func140, Tryz.ntmps140
      go_upto_region 1 with fail
      try rw [hW1]
      try rw [hbx]
      clear hW1 hbx
      go_wp2_with (go_at_call 103; refine HC.out.mono ?_; rintro e w2 ⟨rfl, hx2⟩; have HX2 := Lib.hid (HX.out.trans hx2); clear hx2)
      go_ret
      exact ⟨by simp; omega, HX2.out⟩
  · go_enter Tryz.func140, Tryz.ntmps140
    go_upto_region 1 with fail
    try rw [hW1]
    try rw [hbx]
    clear hW1 hbx
    go_wp2
    go_ret
    exact ⟨by simp; omega, HX.out⟩
theorem index3_call {w : World} {b : Nat} (hb : Blk w b #[.func (.func 104) #[] #[]] 152) (da la ta ra ia : Option Addr) (dn ln tn rn ino dc lc tc rc ic : Nat) (hl : dn ≤ 1000000) (n : Int) :
    Calls Tryz.prog 140 #[codeV (.slice da dn dc) (.slice la ln lc) (.slice ta tn tc) (.slice ra rn rc) (.slice ia ino ic), .int .i64 n, .pointer (some ⟨b, 0, none⟩)] w fun e w' => e = .returned (.bool (decide (0 ≤ n ∧ n < (dn : Nat)))) ∧ Keeps (fun _ => False) w w' := by
  obtain ⟨W1, hW1⟩ : ∃ W1, w.alloc (.cells #[.slice da dn dc, .slice la ln lc, .slice ta tn tc, .slice ra rn rc, .slice ia ino ic] 28) = W1 := ⟨_, rfl⟩
  obtain ⟨bx, hbx⟩ : ∃ bx, w.heap.size = bx := ⟨_, rfl⟩
  have hx : Keeps (fun _ => False) w W1 := by rw [← hW1]; exact (Keeps.refl _ w).alloc _
  have hB : Blk W1 bx #[.slice da dn dc, .slice la ln lc, .slice ta tn tc, .slice ra rn rc, .slice ia ino ic] 28 := by rw [← hW1, ← hbx]; exact Blk.new w _ _
  have c1 : W1.cell? ⟨b, 0, none⟩ = some (.func (.func 104) #[] #[]) := ((hx.blk hb id).cell 0).trans rfl
  have x0 : W1.cell? ⟨bx, 0, none⟩ = some (.slice da dn dc) := (hB.cell 0).trans rfl
  have x1 : W1.cell? ⟨bx, 1, none⟩ = some (.slice la ln lc) := (hB.cell 1).trans rfl
  have x2 : W1.cell? ⟨bx, 2, none⟩ = some (.slice ta tn tc) := (hB.cell 2).trans rfl
  have x3 : W1.cell? ⟨bx, 3, none⟩ = some (.slice ra rn rc) := (hB.cell 3).trans rfl
  have x4 : W1.cell? ⟨bx, 4, none⟩ = some (.slice ia ino ic) := (hB.cell 4).trans rfl
  have HX := Lib.hid hx
  have HC := Lib.hid (len3 da la ta ra ia dn ln tn rn ino dc lc tc rc ic hl W1)
  unfold codeV at HC ⊢
  clear hx hb hB
  by_cases k1 : 0 ≤ n
  · by_cases k2 : n < (dn : Nat)
    · go_enter Tryz.func140, Tryz.ntmps140
      go_upto_region 1 with fail
      try rw [hW1]
      try rw [hbx]
      clear hW1 hbx
      go_wp2_with (go_at_call 104; refine HC.out.mono ?_; rintro e w2 ⟨rfl, hx2⟩; have HX2 := Lib.hid (HX.out.trans hx2); clear hx2)
      go_ret
      exact ⟨by simp; omega, HX2.out⟩
    · go_enter Tryz.func140, Tryz.ntmps140
      go_upto_region 1 with fail
      try rw [hW1]
      try rw [hbx]
      clear hW1 hbx
      go_wp2_with (go_at_call 104; refine HC.out.mono ?_; rintro e w2 ⟨rfl, hx2⟩; have HX2 := Lib.hid (HX.out.trans hx2); clear hx2)
      go_ret
      exact ⟨by simp; omega, HX2.out⟩
  · go_enter Tryz.func140, Tryz.ntmps140
    go_upto_region 1 with fail
    try rw [hW1]
    try rw [hbx]
    clear hW1 hbx
    go_wp2
    go_ret
    exact ⟨by simp; omega, HX.out⟩
theorem index4_call {w : World} {b : Nat} (hb : Blk w b #[.func (.func 106) #[] #[]] 152) (da la ta ra ia : Option Addr) (dn ln tn rn ino dc lc tc rc ic : Nat) (hl : rn ≤ 1000000) (n : Int) :
    Calls Tryz.prog 140 #[codeV (.slice da dn dc) (.slice la ln lc) (.slice ta tn tc) (.slice ra rn rc) (.slice ia ino ic), .int .i64 n, .pointer (some ⟨b, 0, none⟩)] w fun e w' => e = .returned (.bool (decide (0 ≤ n ∧ n < (rn : Nat)))) ∧ Keeps (fun _ => False) w w' := by
  obtain ⟨W1, hW1⟩ : ∃ W1, w.alloc (.cells #[.slice da dn dc, .slice la ln lc, .slice ta tn tc, .slice ra rn rc, .slice ia ino ic] 28) = W1 := ⟨_, rfl⟩
  obtain ⟨bx, hbx⟩ : ∃ bx, w.heap.size = bx := ⟨_, rfl⟩
  have hx : Keeps (fun _ => False) w W1 := by rw [← hW1]; exact (Keeps.refl _ w).alloc _
  have hB : Blk W1 bx #[.slice da dn dc, .slice la ln lc, .slice ta tn tc, .slice ra rn rc, .slice ia ino ic] 28 := by rw [← hW1, ← hbx]; exact Blk.new w _ _
  have c1 : W1.cell? ⟨b, 0, none⟩ = some (.func (.func 106) #[] #[]) := ((hx.blk hb id).cell 0).trans rfl
  have x0 : W1.cell? ⟨bx, 0, none⟩ = some (.slice da dn dc) := (hB.cell 0).trans rfl
  have x1 : W1.cell? ⟨bx, 1, none⟩ = some (.slice la ln lc) := (hB.cell 1).trans rfl
  have x2 : W1.cell? ⟨bx, 2, none⟩ = some (.slice ta tn tc) := (hB.cell 2).trans rfl
  have x3 : W1.cell? ⟨bx, 3, none⟩ = some (.slice ra rn rc) := (hB.cell 3).trans rfl
  have x4 : W1.cell? ⟨bx, 4, none⟩ = some (.slice ia ino ic) := (hB.cell 4).trans rfl
  have HX := Lib.hid hx
  have HC := Lib.hid (len4 da la ta ra ia dn ln tn rn ino dc lc tc rc ic hl W1)
  unfold codeV at HC ⊢
  clear hx hb hB
  by_cases k1 : 0 ≤ n
  · by_cases k2 : n < (rn : Nat)
    · go_enter Tryz.func140, Tryz.ntmps140
      go_upto_region 1 with fail
      try rw [hW1]
      try rw [hbx]
      clear hW1 hbx
      go_wp2_with (go_at_call 106; refine HC.out.mono ?_; rintro e w2 ⟨rfl, hx2⟩; have HX2 := Lib.hid (HX.out.trans hx2); clear hx2)
      go_ret
      exact ⟨by simp; omega, HX2.out⟩
    · go_enter Tryz.func140, Tryz.ntmps140
      go_upto_region 1 with fail
      try rw [hW1]
      try rw [hbx]
      clear hW1 hbx
      go_wp2_with (go_at_call 106; refine HC.out.mono ?_; rintro e w2 ⟨rfl, hx2⟩; have HX2 := Lib.hid (HX.out.trans hx2); clear hx2)
      go_ret
      exact ⟨by simp; omega, HX2.out⟩
  · go_enter Tryz.func140, Tryz.ntmps140
    go_upto_region 1 with fail
    try rw [hW1]
    try rw [hbx]
    clear hW1 hbx
    go_wp2
    go_ret
    exact ⟨by simp; omega, HX.out⟩
end Go.Proofs.YtlaepkmnbbgbcaaGreatDoor
