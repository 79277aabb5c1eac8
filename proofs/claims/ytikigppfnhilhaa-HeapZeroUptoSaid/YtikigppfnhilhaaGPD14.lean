/- settle$1: the words of a slice refer to where the blocks are now. -/
import Derived.Test.YtikigppfnhilhaaGPD5
import Derived.Test.YtikigppfnhilhaaGPD7
/- settle$1: the words of a slice refer to where the blocks are now. -/
namespace Go.Proofs.Ytikigppfnhilhaa
open Go.RowKit Go.Instr
set_option linter.unusedVariables false
set_option linter.unusedSimpArgs false

/-- A word as it refers now. -/
def mvW (f : Int → Int) (u : Wd) : Wd := if refW u = 0 then u else { u with a := f u.a }
/-- What the closure reads. -/
structure UpEnv (w : World) (bh hp : Nat) (hc : Array Value) (av : Value) (es : Array MapEntry) (ck : Nat) (f : Int → Int) (ws : List Wd) : Prop where
  bh : Blk w bh #[.pointer (some ⟨hp, 0, none⟩)] 25
  hp : Blk w hp hc 81
  av8 : hc[8]? = some av
  map : MapV w av es ck
  keys : ∀ e ∈ es, ∃ k, e.key = .int .i64 k
  at_ : ∀ u ∈ ws, refW u ≠ 0 → ∃ p pc, esGet es.toList u.a = some (.pointer (some ⟨p, 0, none⟩)) ∧ Blk w p pc 91 ∧ pc[0]? = some (.int .i64 (f u.a))
def TW : TypeId → Bool := fun t => t == 33
theorem UpEnv.keep {T : TypeId → Bool} {w w' : World} {bh hp : Nat} {hc : Array Value} {av : Value} {es : Array MapEntry} {ck : Nat} {f : Int → Int} {ws : List Wd} (h : UpEnv w bh hp hc av es ck f ws) (hk : TKeep T w w') (h1 : T 25 = false) (h2 : T 81 = false) (h3 : T 91 = false) : UpEnv w' bh hp hc av es ck f ws :=
  ⟨hk.blk h.bh h1, hk.blk h.hp h2, h.av8, hk.mapV h.map, h.keys, fun u hu hr => let ⟨p, pc, a, b, c⟩ := h.at_ u hu hr; ⟨p, pc, a, hk.blk b h3, c⟩⟩

theorem run_lookup_V {w : World} {v : Value} {es : Array MapEntry} {ck : Nat} (hm : MapV w v es ck) (he : ∀ e ∈ es, ∃ k, e.key = .int .i64 k) (k : Int) {r : Value} (hr : esGet es.toList k = some r) :
    (Instr.lookup 78 v (.int .i64 k) false).run Try.prog w = .ok r w := by
  rcases hm with ⟨_, rfl⟩ | ⟨m, rfl, hw⟩
  · simp [esGet] at hr
  · rw [run_lookup_int Try.underlying78 (q := .i64) Try.underlying3 zero_bp hw he k, hr]; rfl

/-- The row under way: the first k words have been moved. -/
def midWs (f : Int → Int) (ws : List Wd) (k : Nat) : List Wd := (ws.take k).map (mvW f) ++ ws.drop k
theorem midWs_len (f : Int → Int) (ws : List Wd) (k : Nat) : (midWs f ws k).length = ws.length := by simp [midWs]; omega
theorem midWs_get (f : Int → Int) (ws : List Wd) (k : Nat) (hk : k < ws.length) : (midWs f ws k)[k]? = some ws[k] := by
  unfold midWs
  rw [List.getElem?_append_right (by simp; omega)]
  simp [Nat.min_eq_left (Nat.le_of_lt hk), hk]
theorem midWs_step (f : Int → Int) (ws : List Wd) (k : Nat) (hk : k < ws.length) : midWs f ws (k + 1) = (midWs f ws k).set k (mvW f ws[k]) := by
  unfold midWs
  rw [List.take_succ_eq_append_getElem hk, List.map_append, List.set_append_right _ _ (by simp; omega)]
  simp [Nat.min_eq_left (Nat.le_of_lt hk)]
  rw [List.drop_eq_getElem_cons hk]; rfl
theorem set_self {α : Type} (l : List α) (i : Nat) (x : α) (h : l[i]? = some x) : l.set i x = l := by
  obtain ⟨hlt, rfl⟩ := List.getElem?_eq_some_iff.1 h
  exact List.set_getElem_self hlt
/-- A word's address, written. -/
theorem flatL_setA (ws : List Wd) (i : Nat) (u : Wd) (hu : ws[i]? = some u) (a : Int) : (flatL ws).set (i * 6 + 1) (.int .i64 a) = flatL (ws.set i { u with a := a }) := by
  have hi : i < ws.length := (List.getElem?_eq_some_iff.1 hu).1
  rw [flatL_set ws i _ hi]
  have hg := fun j hj => flatL_get ws i u hu j hj
  have h0 := hg 0 (by omega)
  have s0 : (flatL ws).set (i * 6) (.int .i64 u.tag) = flatL ws := set_self _ _ _ h0
  simp only [s0]
  apply List.ext_getElem?
  intro j
  have hlen := flatL_length ws
  have g2 := hg 2 (by omega); have g3 := hg 3 (by omega); have g4 := hg 4 (by omega); have g5 := hg 5 (by omega)
  simp only [Wd.cells, List.getElem?_cons_succ, List.getElem?_cons_zero] at g2 g3 g4 g5
  simp only [List.getElem?_set, List.length_set]
  by_cases e5 : i * 6 + 5 = j
  · subst e5; simp [g5]; omega
  · by_cases e4 : i * 6 + 4 = j
    · subst e4; simp [g4]; omega
    · by_cases e3 : i * 6 + 3 = j
      · subst e3; simp [g3]; omega
      · by_cases e2 : i * 6 + 2 = j
        · subst e2; simp [g2]; omega
        · simp [e5, e4, e3, e2]
structure RowW (w : World) (g : Nat) (ws : List Wd) (sz : Nat) : Prop where
  ex : ∃ cur, Blk w g cur 33 ∧ cur.size = sz ∧ ws.length * 6 ≤ sz ∧ cur.toList.take (ws.length * 6) = flatL ws
theorem RowW.cell {w : World} {g : Nat} {ws : List Wd} {sz : Nat} (h : RowW w g ws sz) {i : Nat} {u : Wd} (hu : ws[i]? = some u) (j : Nat) (hj : j < 6) : w.cell? ⟨g, i * 6 + j, none⟩ = u.cells[j]? := by
  obtain ⟨cur, hb, hs, hl, ht⟩ := h.ex
  have hi : i < ws.length := (List.getElem?_eq_some_iff.1 hu).1
  have := flatL_get ws i u hu j hj
  rw [← ht, List.getElem?_take, if_pos (by omega)] at this
  rw [hb.cell]; simpa using this
theorem RowW.frozen {w : World} {g : Nat} {ws : List Wd} {sz : Nat} (h : RowW w g ws sz) (j : Nat) : w.frozen? ⟨g, j, none⟩ = false := by
  obtain ⟨cur, hb, _⟩ := h.ex; exact hb.frozen j
theorem RowW.setA {w : World} {g : Nat} {ws : List Wd} {sz : Nat} (h : RowW w g ws sz) {i : Nat} {u : Wd} (hu : ws[i]? = some u) (a : Int) : RowW (w.setCell ⟨g, i * 6 + 1, none⟩ (.int .i64 a)) g (ws.set i { u with a := a }) sz := by
  obtain ⟨cur, hb, hs, hl, ht⟩ := h.ex
  have hi : i < ws.length := (List.getElem?_eq_some_iff.1 hu).1
  refine ⟨_, hb.set (i * 6 + 1) (.int .i64 a), by simp [hs], by simpa using hl, ?_⟩
  rw [List.length_set, ← flatL_setA ws i u hu a, ← ht, Array.toList_setIfInBounds, List.take_set]
theorem RowW.keep {S : Nat → Prop} {w w' : World} {g : Nat} {ws : List Wd} {sz : Nat} (h : RowW w g ws sz) (hk : Ext w w') : RowW w' g ws sz := by
  obtain ⟨cur, hb, r⟩ := h.ex
  exact ⟨cur, hk.blk hb id, r⟩

set_option maxRecDepth 100000 in
set_option maxHeartbeats 1000000 in
theorem settleF_any {w : World} {bh hp g : Nat} {hc : Array Value} {av : Value} {es : Array MapEntry} {ck c sz : Nat} {f : Int → Int} {ws : List Wd} (h : UpEnv w bh hp hc av es ck f ws) (hr : RowW w g ws sz) (hl : ws.length ≤ 2000000) :
    Calls Try.prog 81 #[.slice (some ⟨g, 0, none⟩) ws.length c, .pointer (some ⟨bh, 0, none⟩)] w fun e w' => e = .returned (.tuple #[]) ∧ RowW w' g (ws.map (mvW f)) sz ∧ TKeep TW w w' ∧ Keeps (· = g) w w' := by
  go_enter Try.func81, Try.ntmps81
  go_wp2
  have H0 : Hid (RowW w g (midWs f ws 0) sz) := Lib.hid (by simpa [midWs] using hr)
  go_loopw [7] (fun i wr => ∃ k : Nat, k ≤ ws.length ∧ i = .int .i64 k ∧ Hid (RowW wr g (midWs f ws k) sz) ∧ Hid (TKeep TW w wr) ∧ Hid (Keeps (· = g) w wr)) (fun i wr => ws.length - (intOf i).toNat)
  case atStart => exact ⟨0, Nat.zero_le _, rfl, H0, TKeep.refl _ _, Keeps.refl _ _⟩
  case round =>
    obtain ⟨k, hk, rfl, HR, HT, HK⟩ := hrel
    by_cases hlt : k < ws.length
    · have hu := midWs_get f ws k hlt
      have E := h.keep HT.out rfl rfl rfl
      have c0 : wr.cell? ⟨g, k * 6, none⟩ = some (.int .i64 ws[k].tag) := (HR.out.cell hu 0 (by omega)).trans rfl
      have c1 : wr.cell? ⟨g, k * 6 + 1, none⟩ = some (.int .i64 ws[k].a) := (HR.out.cell hu 1 (by omega)).trans rfl
      have c2 : wr.cell? ⟨g, k * 6 + 2, none⟩ = some (.int .i64 ws[k].b) := (HR.out.cell hu 2 (by omega)).trans rfl
      have c3 : wr.cell? ⟨g, k * 6 + 3, none⟩ = some (.string ws[k].text) := (HR.out.cell hu 3 (by omega)).trans rfl
      have c4 : wr.cell? ⟨g, k * 6 + 4, none⟩ = some (.int .i64 ws[k].man) := (HR.out.cell hu 4 (by omega)).trans rfl
      have c5 : wr.cell? ⟨g, k * 6 + 5, none⟩ = some (.int .i64 ws[k].exp) := (HR.out.cell hu 5 (by omega)).trans rfl
      have hrf : ∀ W, Gives 41 #[ws[k].val] W (.int .i64 (refW ws[k])) := fun W => refers_any _ W
      have Hrf := Lib.hid hrf; clear hrf
      have Hu := Lib.hid hu; clear hu
      have HE := Lib.hid E; clear E
      unfold Wd.val Wd.cells at Hrf
      by_cases hz : refW ws[k] = 0
      · have Hz := Lib.hid hz; rw [hz] at Hrf; clear hz
        go_wp2_with (go_at_call 41; refine (Hrf.out _).mono ?_; rintro e w2 ⟨rfl, hx⟩)
        have hm : midWs f ws (k + 1) = midWs f ws k := by
          rw [midWs_step f ws k hlt]
          exact set_self _ _ _ (by rw [Hu.out]; simp [mvW, Hz.out])
        go_roundw
        case rel => exact ⟨k + 1, by omega, by go_num, by rw [hm]; exact HR.out.keep (S := fun _ => False) hx, HT.out.trans (TKeep.of_ext hx), HK.out.trans (hx.mono fun _ _ h => h.elim)⟩
        case measure => simp [intOf]; omega
      · obtain ⟨p, pc, h1, h2, h3⟩ := HE.out.at_ ws[k] (List.getElem_mem hlt) hz
        have Hz := Lib.hid hz
        generalize hq : refW ws[k] = q at Hrf hz
        clear hq
        have hz' : (q != 0) = true := by simpa using hz
        go_wp2_with (go_at_call 41; refine (Hrf.out _).mono ?_; rintro e w2 ⟨rfl, hx⟩)
        have HR2 := Lib.hid (HR.out.keep (S := fun _ => False) hx)
        have HE2 := Lib.hid (HE.out.keep (TKeep.of_ext (T := fun _ => false) hx) rfl rfl rfl)
        obtain ⟨p, pc, h1, h2, h3⟩ := HE2.out.at_ ws[k] (List.getElem_mem hlt) Hz.out
        have HT2 := Lib.hid (HT.out.trans (TKeep.of_ext hx))
        have HK2 := Lib.hid (HK.out.trans (hx.mono (S' := (· = g)) fun _ _ h => h.elim))
        have hS : w2.cell? ⟨bh, 0, none⟩ = some (.pointer (some ⟨hp, 0, none⟩)) ∧ w2.cell? ⟨hp, 8, none⟩ = some av ∧ w2.cell? ⟨g, k * 6 + 1, none⟩ = some (.int .i64 ws[k].a) ∧ w2.cell? ⟨p, 0, none⟩ = some (.int .i64 (f ws[k].a)) :=
          ⟨(HE2.out.bh.cell 0).trans rfl, (HE2.out.hp.cell 8).trans HE2.out.av8, (HR2.out.cell Hu.out 1 (by omega)).trans rfl, (h2.cell 0).trans h3⟩
        have hL : ∀ V : World, V.heap = w2.heap → (Instr.lookup 78 av (.int .i64 ws[k].a) false).run Try.prog V = .ok (.pointer (some ⟨p, 0, none⟩)) V := fun V hV =>
          run_lookup_V (by unfold MapV; rw [hV]; exact HE2.out.map) HE2.out.keys _ h1
        have HS : Hid (w2.drew.cell? ⟨bh, 0, none⟩ = some (.pointer (some ⟨hp, 0, none⟩)) ∧ w2.drew.cell? ⟨hp, 8, none⟩ = some av ∧ w2.drew.cell? ⟨g, k * 6 + 1, none⟩ = some (.int .i64 ws[k].a) ∧ w2.drew.cell? ⟨p, 0, none⟩ = some (.int .i64 (f ws[k].a)) ∧
          (Instr.lookup 78 av (.int .i64 ws[k].a) false).run Try.prog w2.drew = .ok (.pointer (some ⟨p, 0, none⟩)) w2.drew) := Lib.hid ⟨hS.1, hS.2.1, hS.2.2.1, hS.2.2.2, hL _ rfl⟩
        clear hS hL h1 h2 h3 hx HR HE HT HK Hrf c0 c1 c2 c3 c4 c5 hz hz' H0 h hr
        refine region_S_plain (n := 3) (fun V => V.cell? ⟨bh, 0, none⟩ = some (.pointer (some ⟨hp, 0, none⟩)) ∧ V.cell? ⟨hp, 8, none⟩ = some av ∧ V.cell? ⟨g, k * 6 + 1, none⟩ = some (.int .i64 ws[k].a) ∧ V.cell? ⟨p, 0, none⟩ = some (.int .i64 (f ws[k].a)) ∧
          (Instr.lookup 78 av (.int .i64 ws[k].a) false).run Try.prog V = .ok (.pointer (some ⟨p, 0, none⟩)) V) 15 (by kernel_rfl) ?_
        have HR3 := Lib.hid (HR2.out.keep (S := fun _ => False) (Ext.refl w2).drew)
        have HT3 := Lib.hid HT2.out.drew
        have HK3 := Lib.hid HK2.out.drew
        generalize w2.drew = w3 at HS HR3 HT3 HK3 ⊢
        refine anyS_quiet (a2 := ?a0) 0 rfl rfl rfl (by kernel_rfl) (by kernel_rfl) (by kernel_rfl) (by kernel_rfl) (by kernel_rfl) (by kernel_rfl) (fun _ _ _ _ h => h) HS.out ?h0 ?k0
        case h0 => intro W hW K hK; obtain ⟨d0, d1, d2, d3, d4⟩ := hW; go_simp; exact hK
        refine anyS_quiet (a2 := ?a1) 1 rfl rfl rfl (by kernel_rfl) (by kernel_rfl) (by kernel_rfl) (by kernel_rfl) (by kernel_rfl) (by kernel_rfl) (fun _ _ _ _ h => h) HS.out ?h1 ?k1
        case h1 => intro W hW K hK; obtain ⟨d0, d1, d2, d3, d4⟩ := hW; go_simp; exact hK
        refine anyS_quiet (a2 := ?a2) 2 rfl rfl rfl (by kernel_rfl) (by kernel_rfl) (by kernel_rfl) (by kernel_rfl) (by kernel_rfl) (by kernel_rfl) (fun _ _ _ _ h => h) HS.out ?h2 ?k2
        case h2 => intro W hW K hK; obtain ⟨d0, d1, d2, d3, d4⟩ := hW; go_simp; exact hK
        refine anyS_quiet (a2 := ?a3) 3 rfl rfl rfl (by kernel_rfl) (by kernel_rfl) (by kernel_rfl) (by kernel_rfl) (by kernel_rfl) (by kernel_rfl) (fun _ _ _ _ h => h) HS.out ?h3 ?k3
        case h3 => intro W hW K hK; obtain ⟨d0, d1, d2, d3, d4⟩ := hW; go_simp; exact hK
        refine anyS_quiet (a2 := ?a4) 4 rfl rfl rfl (by kernel_rfl) (by kernel_rfl) (by kernel_rfl) (by kernel_rfl) (by kernel_rfl) (by kernel_rfl) (fun _ _ _ _ h => h) HS.out ?h4 ?k4
        case h4 => intro W hW K hK; obtain ⟨d0, d1, d2, d3, d4⟩ := hW; go_simp; exact hK
        refine anyS_quiet (a2 := ?a5) 5 rfl rfl rfl (by kernel_rfl) (by kernel_rfl) (by kernel_rfl) (by kernel_rfl) (by kernel_rfl) (by kernel_rfl) (fun _ _ _ _ h => h) HS.out ?h5 ?k5
        case h5 => intro W hW K hK; obtain ⟨d0, d1, d2, d3, d4⟩ := hW; go_simp; exact hK
        refine anyS_quiet (a2 := ?a6) 6 rfl rfl rfl (by kernel_rfl) (by kernel_rfl) (by kernel_rfl) (by kernel_rfl) (by kernel_rfl) (by kernel_rfl) (fun _ _ _ _ h => h) HS.out ?h6 ?k6
        case h6 => intro W hW K hK; obtain ⟨d0, d1, d2, d3, d4⟩ := hW; go_simp; exact hK
        refine anyS_quiet (a2 := ?a7) 7 rfl rfl rfl (by kernel_rfl) (by kernel_rfl) (by kernel_rfl) (by kernel_rfl) (by kernel_rfl) (by kernel_rfl) (fun _ _ _ _ h => h) HS.out ?h7 ?k7
        case h7 => intro W hW K hK; obtain ⟨d0, d1, d2, d3, d4⟩ := hW; go_simp; exact hK
        refine anyS_quiet (a2 := ?a8) 8 rfl rfl rfl (by kernel_rfl) (by kernel_rfl) (by kernel_rfl) (by kernel_rfl) (by kernel_rfl) (by kernel_rfl) (fun _ _ _ _ h => h) HS.out ?h8 ?k8
        case h8 => intro W hW K hK; obtain ⟨d0, d1, d2, d3, d4⟩ := hW; go_simp; exact hK
        refine anyS_quiet (a2 := ?a9) 9 rfl rfl rfl (by kernel_rfl) (by kernel_rfl) (by kernel_rfl) (by kernel_rfl) (by kernel_rfl) (by kernel_rfl) (fun _ _ _ _ h => h) HS.out ?h9 ?k9
        case h9 => intro W hW K hK; obtain ⟨d0, d1, d2, d3, d4⟩ := hW; go_simp; exact hK
        refine anyS_quiet (a2 := ?a10) 10 rfl rfl rfl (by kernel_rfl) (by kernel_rfl) (by kernel_rfl) (by kernel_rfl) (by kernel_rfl) (by kernel_rfl) (fun _ _ _ _ h => h) HS.out ?h10 ?k10
        case h10 => intro W hW K hK; obtain ⟨d0, d1, d2, d3, d4⟩ := hW; go_simp; exact hK
        refine anyS_quiet (a2 := ?a11) 11 rfl rfl rfl (by kernel_rfl) (by kernel_rfl) (by kernel_rfl) (by kernel_rfl) (by kernel_rfl) (by kernel_rfl) (fun _ _ _ _ h => h) HS.out ?h11 ?k11
        case h11 => intro W hW K hK; obtain ⟨d0, d1, d2, d3, d4⟩ := hW; go_simp; exact hK
        refine anyS_quiet (a2 := ?a12) 12 rfl rfl rfl (by kernel_rfl) (by kernel_rfl) (by kernel_rfl) (by kernel_rfl) (by kernel_rfl) (by kernel_rfl) (fun _ _ _ _ h => h) HS.out ?h12 ?k12
        case h12 => intro W hW K hK; obtain ⟨d0, d1, d2, d3, d4⟩ := hW; go_simp; exact hK
        refine anyS_quiet (a2 := ?a13) 13 rfl rfl rfl (by kernel_rfl) (by kernel_rfl) (by kernel_rfl) (by kernel_rfl) (by kernel_rfl) (by kernel_rfl) (fun _ _ _ _ h => h) HS.out ?h13 ?k13
        case h13 => intro W hW K hK; obtain ⟨d0, d1, d2, d3, d4⟩ := hW; go_simp; exact hK
        refine anyS_quiet (a2 := ?a14) 14 rfl rfl rfl (by kernel_rfl) (by kernel_rfl) (by kernel_rfl) (by kernel_rfl) (by kernel_rfl) (by kernel_rfl) (fun _ _ _ _ h => h) HS.out ?h14 ?k14
        case h14 => intro W hW K hK; obtain ⟨d0, d1, d2, d3, d4⟩ := hW; go_simp; exact hK
        refine anyS_only 15 rfl (by kernel_rfl) ?_
        have d2 := HS.out.2.2.1
        have fz := HR3.out.frozen (k * 6 + 1)
        gi_wp2
        refine anyS_done (by kernel_rfl) ?_ _
        have hm : midWs f ws (k + 1) = (midWs f ws k).set k { ws[k] with a := f ws[k].a } := by
          rw [midWs_step f ws k hlt]; simp [mvW, Hz.out]
        have R4 := Lib.hid (HR3.out.setA Hu.out (f ws[k].a))
        rw [← hm] at R4
        obtain ⟨cur, hb, _⟩ := HR3.out.ex
        have T4 := Lib.hid (HT3.out.setCell (p := ⟨g, k * 6 + 1, none⟩) hb rfl (.int .i64 (f ws[k].a)))
        have K4 := Lib.hid (HK3.out.setCell (p := ⟨g, k * 6 + 1, none⟩) (.inl rfl) (.int .i64 (f ws[k].a)))
        clear hb
        go_wp2
        go_roundw
        case rel => exact ⟨k + 1, by omega, by go_num, R4, T4, K4⟩
        case measure => simp [intOf]; omega
    · have : k = ws.length := by omega
      subst this
      have hm : midWs f ws ws.length = ws.map (mvW f) := by simp [midWs]
      rw [hm] at HR
      go_wp2
      go_end0
      exact ⟨rfl, HR.out, HT.out, HK.out⟩
set_option maxRecDepth 100000 in
set_option maxHeartbeats 400000 in
theorem settleF_nil (bh : Nat) (w : World) : Calls Try.prog 81 #[.slice none 0 0, .pointer (some ⟨bh, 0, none⟩)] w fun e w' => e = .returned (.tuple #[]) ∧ w = w' := by
  go_enter Try.func81, Try.ntmps81
  go_wp2
  go_loop [7] (fun i => i = .int .i64 0) (fun _ => 0)
  case atStart => rfl
  case round =>
    subst hrel
    go_wp2
    go_end0
    exact ⟨rfl, rfl⟩
theorem settleF_own {w : World} {base bh hp : Nat} {hc : Array Value} {av : Value} {es : Array MapEntry} {ck : Nat} {f : Int → Int} {v : Value} {ws : List Wd} (h : UpEnv w bh hp hc av es ck f ws) (hr : w.ownsRow base 33 6 v ws.length (flatL ws)) (hl : ws.length ≤ 2000000) :
    Calls Try.prog 81 #[v, .pointer (some ⟨bh, 0, none⟩)] w fun e w' => e = .returned (.tuple #[]) ∧ w'.ownsRow base 33 6 v ws.length (flatL (ws.map (mvW f))) ∧ TKeep TW w w' ∧ Keeps (fun k => v.ownBlock = some k) w w' := by
  rcases hr.2 with ⟨rfl, h0⟩ | ⟨g, cap, cur, rfl, hb, hg, hn, hm, hs, ht⟩
  · have : ws = [] := List.eq_nil_of_length_eq_zero h0
    subst this
    refine (settleF_nil bh w).mono ?_
    rintro e w' ⟨rfl, rfl⟩
    exact ⟨rfl, hr, TKeep.refl _ _, Keeps.refl _ _⟩
  · refine (settleF_any (sz := cap * 6) h ⟨cur, hg, hs, Nat.mul_le_mul_right _ hn, ht⟩ hl).mono ?_
    rintro e w' ⟨rfl, hR, hT, hK⟩
    obtain ⟨cur', b1, b2, b3, b4⟩ := hR.ex
    rw [List.length_map] at b4
    refine ⟨rfl, ⟨by rw [flatL_length, List.length_map], .inr ⟨g, cap, cur', rfl, hb, b1, hn, hm, b2, b4⟩⟩, hT, hK.mono fun i _ e => by subst e; rfl⟩
end Go.Proofs.Ytikigppfnhilhaa
