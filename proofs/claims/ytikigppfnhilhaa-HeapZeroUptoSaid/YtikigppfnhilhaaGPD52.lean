/- The heap's functions on a heap that is nil. HeapZero: a nil heap, and a zero one. -/
import Derived.Test.YtikigppfnhilhaaGPD33
import Derived.Test.YtikigppfnhilhaaGPD31
import Derived.Test.YtikigppfnhilhaaGPD51
/- The heap's functions on a heap that is nil. -/
namespace Go.Proofs.Ytikigppfnhilhaa
open Go.RowKit Go.Instr
set_option linter.unusedVariables false
set_option linter.unusedSimpArgs false
attribute [local go_sem] Oper.semAt_some

def h0 : LH := ⟨0, 0, [], [], []⟩
theorem h0_find (k : Int) : h0.find k = none := rfl
theorem h0_bad (u : Wd) : badF (fun _ => none) u = h0.bad u := by
  unfold badF LH.bad
  rw [h0_find]; rfl
theorem h0_any (roots : List Wd) : roots.any (badF fun _ => none) = roots.any h0.bad := by
  rw [show (badF fun _ => none) = h0.bad from funext h0_bad]
theorem h0_ok (u : Wd) (h : h0.bad u = false) : refW u = 0 := by
  by_cases hz : refW u = 0
  · exact hz
  · obtain ⟨b, hb, _⟩ := bad_iff.1 h hz
    cases hb
theorem h0_mv (f : Int → Int) {roots : List Wd} (h : ¬ roots.any h0.bad = true) : roots.map (mvW f) = roots := by
  have : ∀ u ∈ roots, mvW f u = u := fun u hu => refW_mvW_zero (h0_ok u (by
    cases hc : h0.bad u with
    | false => rfl
    | true => exact (h (List.any_eq_true.2 ⟨u, hu, hc⟩)).elim))
  calc roots.map (mvW f) = roots.map id := List.map_congr_left this
    _ = roots := List.map_id _
theorem h0_minor (roots : List Wd) : h0.minor roots = if roots.any h0.bad = true then (h0, [], 1) else (h0, roots, 0) := by
  unfold LH.minor
  split
  · rfl
  · rename_i h
    rw [if_neg (by show ¬ ((0 : Int) - bused [] < bused (List.filter _ [])); simp [bused]), h0_mv _ h]
    rfl
theorem h0_major (roots : List Wd) : h0.major roots = if roots.any h0.bad = true then (h0, [], 1) else (h0, roots, 0) := by
  unfold LH.major
  split
  · rfl
  · rename_i h
    rw [h0_mv _ h]
    rfl
theorem h0_reach (roots : List Wd) : h0.reachB roots = [] := by unfold LH.reachB; split <;> rfl

def CollN (w : World) (c : LH × List Wd × Int) (e : Ending) (w' : World) : Prop :=
  ∃ v', e = .returned (.tuple #[v', .int .i64 c.2.2]) ∧ w'.ownsRow w.heap.size 33 6 v' c.2.1.length (flatL c.2.1) ∧ Ext w w'
set_option maxRecDepth 100000 in
set_option maxHeartbeats 2000000 in
theorem Minor_nil {w : World} {v : Value} {roots : List Wd} (hr : RdW w v roots) (hl : roots.length ≤ 1048576) :
    Calls Try.prog 35 #[.pointer none, v] w (CollN w (h0.minor roots)) := by
  have HV := Lib.hid (valid_nil hr (by omega))
  have Hr := Lib.hid hr
  rw [h0_any] at HV
  generalize hM : CollN w (h0.minor roots) = M
  have HM := Lib.hid hM
  clear hr hM
  go_enter Try.func35, Try.ntmps35
  go_wp2_with fail
  refine HV.out.mono ?_
  rintro e w1 ⟨rfl, hx1⟩
  have HX1 := Lib.hid hx1
  clear hx1
  by_cases hb : roots.any h0.bad = true
  · rw [hb]
    go_wp2_with fail
    rw [← HM.out, h0_minor, if_pos hb]
    exact ⟨.slice none 0 0, rfl, World.ownsRow_nil _ _ _ _, HX1.out⟩
  · have hb' : roots.any h0.bad = false := by simpa using hb
    have Hb := Lib.hid hb
    rw [hb']
    have HC := Lib.hid (CloneW_any (Hr.out.ext HX1.out) (by omega))
    clear hb hb'
    go_wp2_with fail
    refine HC.out.mono ?_
    rintro e w2 ⟨v', rfl, ho, hx2⟩
    have HO := Lib.hid ho; have HX2 := Lib.hid hx2
    clear ho hx2 HC
    go_wp2_with fail
    rw [← HM.out, h0_minor, if_neg Hb.out]
    exact ⟨v', rfl, ownsRow_base HO.out HX1.out.size, HX1.out.trans HX2.out⟩
set_option maxRecDepth 100000 in
set_option maxHeartbeats 2000000 in
theorem Major_nil {w : World} {v : Value} {roots : List Wd} (hr : RdW w v roots) (hl : roots.length ≤ 1048576) :
    Calls Try.prog 36 #[.pointer none, v] w (CollN w (h0.major roots)) := by
  have Hr := Lib.hid hr
  obtain ⟨bx, hbx⟩ : ∃ bx, w.heap.size = bx := ⟨_, rfl⟩
  obtain ⟨W1, hW1⟩ : ∃ W1, w.alloc (.cells #[.pointer none] 25) = W1 := ⟨_, rfl⟩
  have hxb : Ext w W1 := by rw [← hW1]; exact (Ext.refl w).alloc _
  have hbb : Blk W1 bx #[.pointer none] 25 := by rw [← hW1, ← hbx]; exact Blk.new w _ _
  have HXb := Lib.hid hxb; have HBb := Lib.hid hbb; have HW1 := Lib.hid hW1; have Hbx := Lib.hid hbx
  have HV := Lib.hid (valid_nil (hr.ext hxb) (by omega))
  rw [h0_any] at HV
  generalize hM : CollN w (h0.major roots) = M
  have HM := Lib.hid hM
  clear hr hM hxb hbb hW1 hbx
  go_enter Try.func36, Try.ntmps36
  go_wp2_with fail
  rw [HW1.out, Hbx.out]
  refine HV.out.mono ?_
  rintro e w1 ⟨rfl, hx1⟩
  have HX1 := Lib.hid (HXb.out.trans hx1)
  have b0 : w1.cell? ⟨bx, 0, none⟩ = some (.pointer none) := ((hx1.blk HBb.out id).cell 0).trans rfl
  clear hx1
  by_cases hb : roots.any h0.bad = true
  · rw [hb]
    go_wp2_with fail
    rw [← HM.out, h0_major, if_pos hb]
    exact ⟨.slice none 0 0, rfl, World.ownsRow_nil _ _ _ _, HX1.out⟩
  · have hb' : roots.any h0.bad = false := by simpa using hb
    have Hb := Lib.hid hb
    rw [hb']
    have HC := Lib.hid (CloneW_any (Hr.out.ext HX1.out) (by omega))
    clear hb hb'
    go_wp2_with fail
    refine HC.out.mono ?_
    rintro e w2 ⟨v', rfl, ho, hx2⟩
    have HO := Lib.hid ho; have HX2 := Lib.hid hx2
    clear ho hx2 HC
    go_wp2_with fail
    rw [← HM.out, h0_major, if_neg Hb.out]
    exact ⟨v', rfl, ownsRow_base HO.out HX1.out.size, HX1.out.trans HX2.out⟩
set_option maxRecDepth 100000 in
theorem Remembered_nil (w : World) : Calls Try.prog 26 #[.pointer none] w fun e w' => e = .returned (.slice none 0 0) ∧ w = w' := by
  go_enter Try.func26, Try.ntmps26
  go_wp2
  go_ret
  exact ⟨rfl, rfl⟩

set_option maxRecDepth 100000 in
set_option maxHeartbeats 2000000 in
theorem reached_nil {w : World} {v : Value} {from_ : List Wd} (hr : RdW w v from_) (hl : from_.length ≤ 2000000) {gf : Nat} {lead : Array Value} :
    Calls Try.prog 45 #[.pointer none, v, .func (.func gf) lead #[]] w fun e w' => e = .returned (.map (some w.heap.size)) ∧ Ext w w' ∧ KMap w' w.heap.size [] := by
  have hmm := run_makeMap (P := Try.prog) 101 w
  obtain ⟨w1, hw1⟩ : ∃ w1, w.alloc (.map #[] 0) = w1 := ⟨_, rfl⟩
  rw [hw1] at hmm
  obtain ⟨m, hm⟩ : ∃ m, m = w.heap.size := ⟨_, rfl⟩
  rw [← hm] at hmm ⊢
  have hx1 : Ext w w1 := by rw [← hw1]; exact (Ext.refl w).alloc _
  have hm1 : w1.heap[m]? = some (.map #[] 0) := by rw [← hw1, hm]; exact World.alloc_heap_new _ _
  have hs1 : w1.heap.size = m + 1 := by rw [← hw1, hm]; simp
  have HC := Lib.hid (CloneW_any (hr.ext hx1) hl)
  have Hr := Lib.hid hr
  clear hr
  go_enter Try.func45, Try.ntmps45
  go_wp2_with fail
  apply wp_scope_straight
  go_wp2_with (go_at_call 38; refine HC.out.mono ?_; rintro e w2 ⟨t0, rfl, hown, hx2⟩)
  have Ho : Hid (w2.ownsRow (m + 1) 33 6 t0 from_.length (flatL from_)) := Lib.hid (ownsRow_base hown (by omega))
  have HX : Hid (Ext w w2) := Lib.hid (hx1.trans hx2)
  have HM : Hid (KMap w2 m []) := Lib.hid ⟨#[], 0, (hx2.heap m (by omega)).trans hm1, ⟨by simp, by simp, by simp, by simp⟩, fun k => by simp [esPtr]⟩
  have Hsz : Hid (m + 1 ≤ w2.heap.size) := Lib.hid (by have := hx2.size; omega)
  have HL := Lib.hid hl
  have Hm := Lib.hid hm
  clear hown hx2 hx1 hm1 hmm hw1 hs1 HC hl hm
  rw [← Hm.out]
  apply wp_label
  go_wp2_with fail
  go_loopw [8] (fun t wr => ∃ ws : List Wd, Hid (ws.length ≤ 2000000) ∧ Hid (Ext w wr) ∧ Hid (wr.ownsRow (m + 1) 33 6 t ws.length (flatL ws)) ∧ Hid (KMap wr m []) ∧ Hid (m + 1 ≤ wr.heap.size)) (fun t wr => slLen t)
  case atStart => exact ⟨from_, HL, HX, Ho, HM, Hsz⟩
  case round =>
    clear Ho HX HM Hsz Hr
    obtain ⟨ws, HR, HX, Ho, HM, Hsz⟩ := hrel
    rcases List.eq_nil_or_concat ws with rfl | ⟨ws', u, hw⟩
    · obtain ⟨a0, c0, rfl⟩ := own_slice Ho.out
      clear Ho
      go_wp2
      rw [Exit.noGoto_ret]
      go_ret
      exact ⟨rfl, HX.out, HM.out⟩
    · rw [List.concat_eq_append] at hw; subst hw
      have hn : ws'.length ≤ 2000000 := by have := HR.out; simp at this; omega
      have Ho1 : wr.ownsRow (m + 1) 33 6 u8 (ws'.length + 1) (flatL ws' ++ u.cells) := by have := Ho.out; rw [flatL_append] at this; simpa [flatL] using this
      obtain ⟨g, cp, rfl⟩ := ownsRow_succ Ho1
      clear Ho
      have hc := Ho1.cells (g := g) rfl
      have Ho2 := Lib.hid (ownsRow_pop (by rw [flatL_length]) Ho1)
      have hcell : ∀ j, j < 6 → wr.cell? ⟨g, ws'.length * 6 + j, none⟩ = u.cells[j]? := fun j hj => by
        obtain ⟨z, hz⟩ : ∃ z, u.cells[j]? = some z := ⟨_, List.getElem?_eq_getElem (by simpa [Wd.cells] using hj)⟩
        rw [hz]
        have := hc (ws'.length * 6 + j) z (by rw [List.getElem?_append_right (by rw [flatL_length]; omega), flatL_length]; simpa using hz)
        rw [show (⟨g, 0, none⟩ : Addr).add (ws'.length * 6 + j) = ⟨g, ws'.length * 6 + j, none⟩ from by unfold Addr.add; split <;> simp_all] at this
        exact this
      have c0 : wr.cell? ⟨g, ws'.length * 6, none⟩ = some (.int .i64 u.tag) := (hcell 0 (by omega)).trans rfl
      have c1 : wr.cell? ⟨g, ws'.length * 6 + 1, none⟩ = some (.int .i64 u.a) := (hcell 1 (by omega)).trans rfl
      have c2 : wr.cell? ⟨g, ws'.length * 6 + 2, none⟩ = some (.int .i64 u.b) := (hcell 2 (by omega)).trans rfl
      have c3 : wr.cell? ⟨g, ws'.length * 6 + 3, none⟩ = some (.string u.text) := (hcell 3 (by omega)).trans rfl
      have c4 : wr.cell? ⟨g, ws'.length * 6 + 4, none⟩ = some (.int .i64 u.man) := (hcell 4 (by omega)).trans rfl
      have c5 : wr.cell? ⟨g, ws'.length * 6 + 5, none⟩ = some (.int .i64 u.exp) := (hcell 5 (by omega)).trans rfl
      have hcp : ws'.length + 1 ≤ cp := by
        rcases Ho1.2 with ⟨h0, _⟩ | ⟨g', cap', cur, hv, _, _, hn, hcap, _⟩
        · cases h0
        · cases hv; omega
      clear hcell hc Ho1
      have Hf : ∀ W, Calls Try.prog 41 #[u.val] W _ := fun W => refers_any u W
      unfold Wd.val Wd.cells at Hf
      have HHf := Lib.hid Hf; clear Hf
      go_wp2_with fail
      refine (HHf.out _).mono ?_
      rintro e w3 ⟨rfl, hx3⟩
      have hg3 := Keeps.trans ((Ext.refl wr).alloc _) hx3
      have HX3 := Lib.hid (HX.out.trans hg3)
      have Ho3 : Hid (w3.ownsRow (m + 1) 33 6 (.slice (some ⟨g, 0, none⟩) ws'.length cp) ws'.length (flatL ws')) := Lib.hid (own_ext Ho2.out hg3)
      have HM3 : Hid (KMap w3 m []) := Lib.hid (HM.out.keep (Ext.heap hg3 m (by have := Hsz.out; omega)))
      have Hsz3 : Hid (m + 1 ≤ w3.heap.size) := Lib.hid (Nat.le_trans Hsz.out hg3.size)
      have Hn := Lib.hid hn
      clear hx3 hg3 c0 c1 c2 c3 c4 c5
      go_wp2_with (go_at_call 42; refine (block_nil _ _).mono ?_; rintro e w4 ⟨rfl, rfl⟩)
      exact ⟨⟨ws', Hn, HX3, Ho3, HM3, Hsz3⟩, by simp [slLen]⟩

def ReachN (w : World) (roots : List Wd) (e : Ending) (w' : World) : Prop :=
  ∃ v', e = .returned (.tuple #[v', .int .i64 (if roots.any h0.bad = true then 1 else 0)]) ∧ w'.ownsRow w.heap.size 3 1 v' (h0.reachB roots).length ((h0.reachB roots).map (Value.int .i64)) ∧ Ext w w'
set_option maxRecDepth 100000 in
set_option maxHeartbeats 4000000 in
theorem Reach_nil {w : World} {v : Value} {roots : List Wd} (hr : RdW w v roots) (hl : roots.length ≤ 1048576) :
    Calls Try.prog 22 #[.pointer none, v] w (ReachN w roots) := by
  have HV := Lib.hid (valid_nil hr (by omega))
  rw [h0_any] at HV
  have Hr := Lib.hid hr
  generalize hM : ReachN w roots = M
  have HM := Lib.hid hM
  clear hr hM
  go_enter Try.func22, Try.ntmps22
  go_wp2_with fail
  refine HV.out.mono ?_
  rintro e w1 ⟨rfl, hx1⟩
  have HX1 := Lib.hid hx1
  clear hx1
  by_cases hb : roots.any h0.bad = true
  · rw [hb]
    go_wp2
    rw [← HM.out]
    unfold ReachN
    rw [if_pos hb, h0_reach]
    exact ⟨.slice none 0 0, rfl, World.ownsRow_nil _ _ _ _, HX1.out⟩
  · have hb' : roots.any h0.bad = false := by simpa using hb
    rw [hb']
    have Hb := Lib.hid hb
    clear hb hb'
    have Hrch := Lib.hid (reached_nil (Hr.out.ext HX1.out) (by omega) (gf := 46) (lead := #[]))
    go_wp2_with fail
    refine Hrch.out.mono ?_
    rintro e w5 ⟨rfl, hx5, hKM⟩
    obtain ⟨m, hm⟩ : ∃ m, m = w1.heap.size := ⟨_, rfl⟩
    rw [← hm] at hKM ⊢
    obtain ⟨es2, ck2, hm2, he2, hg2⟩ := hKM.ex
    have HX5 := Lib.hid (HX1.out.trans hx5)
    have Hm2 : Hid (MapV w5 (.map (some m)) es2 ck2) := Lib.hid (.inr ⟨m, rfl, hm2⟩)
    have HE2 := Lib.hid he2; have HG2 := Lib.hid hg2
    clear Hrch hx5 hm hm2 he2 hg2 hKM HX1
    go_wp2_with (at_range; refine wpList_range_it rfl _ 101 rfl _ _ Try.underlying101 (by rfl) Hm2.out HE2.out.nodup HE2.out.borns HE2.out.born ?_; intro w6 hit hx6 hs6)
    go_frame
    obtain ⟨r2, hr2⟩ : ∃ r2, r2 = w5.heap.size := ⟨_, rfl⟩
    rw [← hr2] at hit ⊢
    have HI6 := Lib.hid hit
    have HX6 : Hid (Ext w w6) := Lib.hid (HX5.out.trans hx6)
    clear hit hx6 hs6 hr2 Hm2 HX5 HV Hr
    go_loopw [6] (fun ov wr => ov = .slice none 0 0 ∧ Hid (Iter wr (.map (some m)) r2 es2 ck2 []) ∧ Hid (Ext w wr)) (fun f wr => itLeft wr r2)
    case atStart => exact ⟨rfl, HI6, HX6⟩
    case round =>
      clear HI6 HX6
      obtain ⟨rfl, HI, HX⟩ := hrel
      go_wp2_with (at_next; refine wpList_next_it rfl _ rfl rfl HI.out ?_ ?_)
      · intro hall
        clear hall
        have hb0 := HX.out.size
        go_wp2_with fail
        refine (sort_own (zs := []) (World.ownsRow_nil wr w.heap.size _ _) hb0 (Nat.zero_le _)).mono ?_
        rintro e w8 ⟨rfl, ho8, hbl8⟩
        have Hbl8 := Lib.hid hbl8
        clear ho8 hbl8
        go_wp2
        rw [← HM.out]
        unfold ReachN
        rw [if_neg Hb.out, h0_reach]
        exact ⟨_, rfl, World.ownsRow_nil _ _ _ _, HX.out.trans' (Keeps.of_below Hbl8.out (fun k => w.heap.size ≤ k) fun k _ h => h) fun k hk hh => by omega⟩
      · intro e w7 he
        intros
        exfalso
        obtain ⟨k, hk⟩ := HE2.out.key e he
        have h1 := esPtr_of_mem (es := es2.toList) (by simpa using he) hk
        rw [HG2.out] at h1
        exact h1 (if_neg (by simp))

set_option maxRecDepth 100000 in
set_option maxHeartbeats 1000000 in
theorem allF_nil (n : Nat) (l bx : Nat) (W : World) (hbx : W.cell? ⟨bx, 0, none⟩ = some (.pointer none)) :
    CallsIn (WF none) n Try.prog 66 #[.func (.yield l) #[] #[], .pointer (some ⟨bx, 0, none⟩)] W fun e W' => (∃ v, e = .returned v) ∧ W' = W := by
  have h6 : (WF none).fn 66 := trivial
  have hro : (WF none).round = none := rfl
  refine callsIn_of_wp Try.func66 rfl h6 ?_ hro
  simp only [Try.ntmps66, List.size_toArray, List.length_cons, List.length_nil, Nat.reduceAdd, Nat.reduceSub, Array.replicate_succ, Array.replicate_zero, List.push_toArray, List.append_toArray, List.nil_append, List.cons_append]
  gi_wp2
  refine bodyPost_ret (results_none rfl _ _ _) rfl ?_
  exact ⟨⟨_, rfl⟩, rfl⟩
theorem allF_stops_nil {w : World} (n : Nat) (bx : Nat) (hbx : w.cell? ⟨bx, 0, none⟩ = some (.pointer none)) :
    SeqStopsK (WF none) n Try.prog 66 #[.pointer (some ⟨bx, 0, none⟩)] (fun y : Empty => y.elim) KeepP (fun _ => True) (fun _ => True) 0 w := by
  intro l J Jx W hW hJ hJx hY h0
  refine (allF_nil n l bx W (by rw [← hbx]; exact World.cell?_of_block (hW.block bx (World.block_lt_of_cell? w _ hbx)))).mono ?_
  rintro e W' ⟨hv, rfl⟩
  exact ⟨hv, .inl ⟨[], trivial, h0⟩⟩
set_option maxRecDepth 100000 in
set_option maxHeartbeats 2000000 in
theorem Blocks_nil (w : World) :
    Calls Try.prog 12 #[.pointer none] w fun e w' => e = .returned (.slice none 0 0) ∧ Ext w w' := by
  refine (callsIn_wide (n := 9)).1 ?_
  rw [← WF_none]
  have hro : (WF none).round = none := rfl
  have hfn : (WF none).fn 12 := trivial
  have hfa : (WF none).fn 37 := trivial
  refine callsIn_of_wp_marks Try.func12 rfl hfn ?_ hro
  simp only [Try.ntmps12, List.size_toArray, List.length_cons, List.length_nil, Nat.reduceAdd, Nat.reduceSub, Array.replicate_succ, Array.replicate_zero, List.push_toArray, List.append_toArray, List.nil_append, List.cons_append]
  gi_wp2_with (gi_at_call 37; refine (callsIn_WF (all_any _ _)).mono ?_; rintro e w' ⟨rfl, rfl⟩)
  have hs1 : ((w.alloc (.cells #[.slice none 0 0] 28)).alloc (.cells #[.pointer none] 25)).heap.size = w.heap.size + 2 := by simp
  have hB1 : Below w.heap.size w ((w.alloc (.cells #[.slice none 0 0] 28)).alloc (.cells #[.pointer none] 25)) := ((Below.refl _ w).alloc (Nat.le_refl _) _).alloc (by simp) _
  have hbo : Blk ((w.alloc (.cells #[.slice none 0 0] 28)).alloc (.cells #[.pointer none] 25)) w.heap.size #[.slice none 0 0] 28 := (Blk.new w _ _).alloc _
  have hbx : ((w.alloc (.cells #[.slice none 0 0] 28)).alloc (.cells #[.pointer none] 25)).cell? ⟨w.heap.size + 1, 0, none⟩ = some (.pointer none) := by
    have := (Blk.new (w.alloc (.cells #[.slice none 0 0] 28)) #[.pointer none] 25).cell 0
    rw [World.size_alloc] at this; exact this
  generalize (w.alloc (.cells #[.slice none 0 0] 28)).alloc (.cells #[.pointer none] 25) = w1 at hs1 hB1 hbo hbx ⊢
  refine wpIn_rangeFunc_ownG hro (by omega) (gf := 66) (lb := #[.pointer (some ⟨w.heap.size + 1, 0, none⟩)]) rfl trivial (enters_of Try.func66 (by kernel_rfl) rfl)
    (allF_stops_nil 8 (w.heap.size + 1) hbx) (fun h k => h.trans k) (fun W l o o' _ hl hc _ => KeepP.putObj hl hc o') (Below.refl _ _) (fun y => y.elim)
    (fun _ W => Below w.heap.size w W ∧ Blk W w.heap.size #[.slice none 0 0] 28)
    (fun _ _ _ => False)
    ?hI (fun _ _ _ _ _ hs _ _ => hs) ⟨hB1, hbo⟩
    (fun y => y.elim) (fun _ y => y.elim) (fun _ _ y => y.elim) ?done ?stop
  case hI =>
    rintro s A B row ⟨g1, g3⟩ hg hr
    exact ⟨g1.grown hg g1.size fun k e => by have := (hr k e).1; omega, (grownBy_keeps_cells hg (fun r e => (hr r e).2) g3 rfl).trans g3⟩
  case done =>
    rintro D l W hD hl ⟨g1, g3⟩ hK
    have cb : W.cell? ⟨w.heap.size, 0, none⟩ = some (.slice none 0 0) := (g3.cell 0).trans rfl
    gi_wp2
    refine ⟨by simp, .inl ⟨_, _, rfl, run_takeDeferred hK, ?_⟩⟩
    refine ⟨_, results_tmp rfl _ _ _, rfl, ?_⟩
    exact Keeps.of_below (belowK_t g1 (belowK_b (w := w) (Nat.le_refl _) W D _ _ (by omega) hK rfl rfl)) _ fun k hk hB => by omega
  case stop => exact fun D c pre W _ _ h => h.elim
end Go.Proofs.Ytikigppfnhilhaa
/- HeapZero: a nil heap, and a zero one. -/
namespace Go.Proofs.Ytikigppfnhilhaa
open Go.RowKit Go.Instr
set_option linter.unusedVariables false
set_option linter.unusedSimpArgs false
attribute [local go_sem] Oper.semAt_some

theorem h0_of {h : LH} (k : LOk h) (i : LInv h) (hY : h.Y = 0) (hO : h.O = 0) : h = h0 := by
  obtain ⟨Y, O, yb, ob, R⟩ := h
  have hY' : Y = 0 := hY
  have hO' : O = 0 := hO
  subst hY'; subst hO'
  have h1 : yb = [] := List.eq_nil_of_length_eq_zero (by have h2 := bused_len yb; have h3 : bused yb ≤ 0 := k.uy; omega)
  have h2 : ob = [] := List.eq_nil_of_length_eq_zero (by have h2 := bused_len ob; have h3 : bused ob ≤ 0 := k.uo; omega)
  subst h1; subst h2
  have h3 : R = [] := by
    cases R with
    | nil => rfl
    | cons a R =>
      obtain ⟨b, hb, _⟩ := i.rem a (by simp)
      cases hb
  subst h3; rfl
theorem StH.zero {W0 w : World} {hp : Nat} {h : LH} {P : Nat → Prop} (s : StH W0 hp 0 0 w h P) : h = h0 := by
  have O := heapOps W0 hp 0 0
  have k := O.lok s; have i := O.inv s
  obtain ⟨x, hx, rfl, rfl⟩ := s
  exact h0_of k i hx.Y hx.O
theorem h0_alloc (kind size : Int) : h0.alloc kind size = if kind < 0 ∨ 255 < kind ∨ size < 0 ∨ 2000 < size then (h0, 0, 1) else (h0, 0, 2) := by
  unfold LH.alloc
  split
  · rfl
  · rename_i h
    rw [if_neg (by show ¬ size + 1 ≤ 0; omega), if_neg (by show ¬ size + 1 ≤ 0 - bused []; simp [bused]; omega)]
theorem h0_store (k i : Int) (u : Wd) : h0.store k i u = (h0, 5) := rfl
section
variable {W0 : World} {hp : Nat}
theorem StH.adv0 {w w' : World} {P : Nat → Prop} (s : StH W0 hp 0 0 w h0 P) (hx : Ext w w') : Adv (StH W0 hp 0 0) w P h0 w' :=
  ⟨hx.mono fun _ _ h => h.elim, P, (heapOps W0 hp 0 0).keep s hx (fun _ _ h => h) (fun _ h => h.elim), fun k hk => .inl hk⟩
theorem Adv.ext {w w' : World} (hx : w = w') : Ext w w' := hx ▸ Ext.refl _
/-- The nil heap, beside the zero one. -/
theorem nilOps (W0 : World) (hp : Nat) : Ops W0.heap.size (.pointer none) (StH W0 hp 0 0) where
  keep := (heapOps W0 hp 0 0).keep
  lt := (heapOps W0 hp 0 0).lt
  low := (heapOps W0 hp 0 0).low
  lok := (heapOps W0 hp 0 0).lok
  inv := (heapOps W0 hp 0 0).inv
  alloc := by
    intro w h P s kind size
    obtain rfl := s.zero
    rw [h0_alloc]
    by_cases hb : kind < 0 ∨ 255 < kind ∨ size < 0 ∨ 2000 < size
    · rw [if_pos hb]
      refine (Alloc_arg _ kind size hb w).mono ?_
      rintro e w' ⟨rfl, hx⟩
      exact ⟨rfl, s.adv0 (Adv.ext hx)⟩
    · rw [if_neg hb]
      refine (Alloc_nil kind size (by omega) (by omega) (by omega) (by omega) w).mono ?_
      rintro e w' ⟨rfl, hx⟩
      exact ⟨rfl, s.adv0 (Adv.ext hx)⟩
  store := by
    intro w h P s k i u
    obtain rfl := s.zero
    rw [h0_store]
    refine (Store_nil w k i u).mono ?_
    rintro e w' ⟨rfl, hx⟩
    exact ⟨rfl, s.adv0 hx⟩
  load := by
    intro w h P s k i
    obtain rfl := s.zero
    exact Load_nil k i w
  minor := by
    intro w h P s rv roots hr hd hl
    obtain rfl := s.zero
    refine (Minor_nil hr hl).mono ?_
    rintro e w' ⟨v', rfl, ho, hx⟩
    refine ⟨v', rfl, ho, ?_⟩
    have h1 : (h0.minor roots).1 = h0 := by rw [h0_minor]; split <;> rfl
    rw [h1]; exact s.adv0 hx
  major := by
    intro w h P s rv roots hr hd hl
    obtain rfl := s.zero
    refine (Major_nil hr hl).mono ?_
    rintro e w' ⟨v', rfl, ho, hx⟩
    refine ⟨v', rfl, ho, ?_⟩
    have h1 : (h0.major roots).1 = h0 := by rw [h0_major]; split <;> rfl
    rw [h1]; exact s.adv0 hx
  reach := by
    intro w h P s rv roots hr hl
    obtain rfl := s.zero
    exact Reach_nil hr hl
  kind := by
    intro w h P s k
    obtain rfl := s.zero
    exact (Kind_nil k w).mono fun e w' ⟨h1, h2⟩ => ⟨h1, Adv.ext h2⟩
  size := by
    intro w h P s k
    obtain rfl := s.zero
    exact (Size_nil k w).mono fun e w' ⟨h1, h2⟩ => ⟨h1, Adv.ext h2⟩
  young := by
    intro w h P s k
    obtain rfl := s.zero
    exact (Young_nil k w).mono fun e w' ⟨h1, h2⟩ => ⟨h1, Adv.ext h2⟩
  free := by
    intro w h P s
    obtain rfl := s.zero
    exact (Free_nil w).mono fun e w' ⟨h1, h2⟩ => ⟨h1, Adv.ext h2⟩
  rem := by
    intro w h P s
    obtain rfl := s.zero
    refine (Remembered_nil w).mono ?_
    rintro e w' ⟨rfl, hx⟩
    exact ⟨_, [], rfl, World.ownsRow_nil _ _ _ _, List.Pairwise.nil, fun k => Iff.rfl, Nat.zero_le _, Adv.ext hx⟩
  blocks := by
    intro w h P s
    obtain rfl := s.zero
    refine (Blocks_nil w).mono ?_
    rintro e w' ⟨rfl, hx⟩
    exact ⟨none, 0, [], rfl, ⟨rfl, World.ownsRow_nil _ _ _ _, fun i b u hb => by simp [h0, LH.all] at hb⟩, hx⟩
end
/-- The zero heap. -/
def zero0 (hp : Nat) : PH := ⟨hp, 0, 0, 0, .slice none 0 0, 0, 0, 0, .slice none 0 0, .map none, .map none, [], [], []⟩
theorem HRep.zero {w : World} {base hp : Nat} (hb : Blk w hp #[.int .i64 0, .int .i64 0, .int .i64 0, .slice none 0 0, .int .i64 0, .int .i64 0, .int .i64 0, .slice none 0 0, .map none, .map none] 81) (hbase : base ≤ hp) : HRep w base (zero0 hp) where
  blk := hb
  yrow := World.ownsRow_nil _ _ _ _
  orow := World.ownsRow_nil _ _ _ _
  rows := fun k hk => by simp [zero0, Value.ownBlock] at hk
  amap := ⟨#[], 0, .inl ⟨rfl, rfl⟩, IntEs.empty 0, fun k => rfl⟩
  rmap := ⟨#[], 0, .inl ⟨rfl, rfl⟩, IntEs.empty 0, fun k => rfl⟩
  maps := fun k hk => by simp [zero0] at hk
  pbs := fun y hy => by simp [zero0, PH.all] at hy
  ps := by simp [zero0, PH.all]
  arrs := by simp [zero0, PH.all]
  base_ := fun k hk => by
    rcases hk with rfl | hk | hk | hk | hk | hk | hk
    · exact hbase
    · simp [zero0, Value.ownBlock] at hk
    · simp [zero0, Value.ownBlock] at hk
    · simp [zero0] at hk
    · simp [zero0] at hk
    · simp [zero0, PH.all] at hk
    · simp [zero0, PH.all] at hk
  ok :=
    { Y0 := Int.le_refl _
      Y1 := by show (0:Int) ≤ 100000; decide
      O0 := Int.le_refl _
      O1 := by show (0:Int) ≤ 100000; decide
      yu := rfl
      ou := rfl
      yu1 := Int.le_refl _
      ou1 := Int.le_refl _
      fy := fun h => absurd h (by show ¬ (0:Int) < 0; decide)
      fo := fun h => absurd h (by show ¬ (0:Int) < 0; decide)
      nil := fun _ => ⟨rfl, rfl⟩
      dy := trivial
      do_ := trivial }
theorem zero0_fp {hp k : Nat} (h : (zero0 hp).fp k) : k = hp := by
  rcases h with e | hk | hk | hk | hk | hk | hk
  · exact e
  · simp [zero0, Value.ownBlock] at hk
  · simp [zero0, Value.ownBlock] at hk
  · simp [zero0] at hk
  · simp [zero0] at hk
  · simp [zero0, PH.all] at hk
  · simp [zero0, PH.all] at hk
end Go.Proofs.Ytikigppfnhilhaa
