/- Alloc: the walk. New: a heap without blocks. -/
import Derived.Test.YtikigppfnhilhaaGPD10
import Derived.Test.YtikigppfnhilhaaGPD8
import Derived.Test.YtikigppfnhilhaaGPD9
import Derived.Carry
/- Alloc: the walk. -/
namespace Go.Proofs.Ytikigppfnhilhaa
open Go.RowKit Go.Instr
set_option linter.unusedVariables false
set_option linter.unusedSimpArgs false

theorem info_word : (Try.prog.info? 33).map (fun i => (i.zero, i.size, i.bytes)) = some (some (.agg #[.int .i64 0, .int .i64 0, .int .i64 0, .string ⟨#[]⟩, .int .i64 0, .int .i64 0]), 6, 56) := by kernel_rfl
theorem flat_zeros (n : Nat) : madeCells #[.int .i64 0, .int .i64 0, .int .i64 0, .string ⟨#[]⟩, .int .i64 0, .int .i64 0] (n * 6) = flat (List.replicate n wd0) := by
  apply Array.ext_getElem?
  intro k
  by_cases hk : k < n * 6
  · have hu : (List.replicate n wd0)[k / 6]? = some wd0 := by
      rw [List.getElem?_replicate, if_pos (by omega)]
    have hr := flat_get _ (k / 6) wd0 hu (k % 6) (Nat.mod_lt _ (by omega))
    rw [show k / 6 * 6 + k % 6 = k from by omega] at hr
    rw [hr]
    have h6 : k % 6 = 0 ∨ k % 6 = 1 ∨ k % 6 = 2 ∨ k % 6 = 3 ∨ k % 6 = 4 ∨ k % 6 = 5 := by omega
    simp only [madeCells, Array.getElem?_map, Array.getElem?_range, hk, if_true]
    rcases h6 with h | h | h | h | h | h <;> simp [h, Wd.cells, wd0]
  · have h1 : (flat (List.replicate n wd0)).size = n * 6 := by simp [flat, flatL_length]
    have h2 : (madeCells #[.int .i64 0, .int .i64 0, .int .i64 0, .string ⟨#[]⟩, .int .i64 0, .int .i64 0] (n * 6)).size = n * 6 := size_madeCells _ _
    rw [Array.getElem?_eq_none (by omega), Array.getElem?_eq_none (by omega)]
theorem run_makeW (n : Nat) (hn : n ≤ 100000) (w : World) : (Instr.makeSlice 23 (.int .i64 n) (.int .i64 n)).run Try.prog w = .ok (.slice (some ⟨w.heap.size, 0, none⟩) n n) (w.alloc (.cells (flat (List.replicate n wd0)) 33)) := by
  obtain ⟨i, hi, hz0, hz1, hz2⟩ := info_parts info_word
  have := run_make (P := Try.prog) w 23 33 i _ Try.underlying23 hi hz0 .i64 .i64 n n (by omega) (Int.le_refl _) (by rw [hz2]; omega) (by omega)
  rw [this, hz1]
  simp only [Int.toNat_natCast, Value.cells]
  rw [flat_zeros]

section
variable {w : World} {base : Nat} {x : PH}
set_option maxHeartbeats 400000 in
theorem Alloc_arg (p : Option Addr) (kind size : Int) (h : kind < 0 ∨ 255 < kind ∨ size < 0 ∨ 2000 < size) (w : World) :
    Calls Try.prog 34 #[.pointer p, .int .i64 kind, .int .i64 size] w fun e w' => e = .returned (.tuple #[.int .i64 0, .int .i64 1]) ∧ w = w' := by
  by_cases h1 : kind < 0
  · clear h
    go_enter Try.func34, Try.ntmps34
    go_wp2
    go_ret2
    exact ⟨rfl, rfl⟩
  · by_cases h2 : 255 < kind
    · clear h
      go_enter Try.func34, Try.ntmps34
      go_wp2
      go_ret2
      exact ⟨rfl, rfl⟩
    · by_cases h3 : size < 0
      · clear h
        go_enter Try.func34, Try.ntmps34
        go_wp2
        go_ret2
        exact ⟨rfl, rfl⟩
      · have h4 : 2000 < size := by omega
        clear h
        go_enter Try.func34, Try.ntmps34
        go_wp2
        go_ret2
        exact ⟨rfl, rfl⟩
set_option maxHeartbeats 400000 in
theorem Alloc_nil (kind size : Int) (h1 : 0 ≤ kind) (h2 : kind ≤ 255) (h3 : 0 ≤ size) (h4 : size ≤ 2000) (w : World) :
    Calls Try.prog 34 #[.pointer none, .int .i64 kind, .int .i64 size] w fun e w' => e = .returned (.tuple #[.int .i64 0, .int .i64 2]) ∧ w = w' := by
  go_enter Try.func34, Try.ntmps34
  go_wp2
  go_ret2
  exact ⟨rfl, rfl⟩
-- FULL
set_option maxHeartbeats 400000 in
theorem Alloc_full_y (h : HRep w base x) (kind size : Int) (h1 : 0 ≤ kind) (h2 : kind ≤ 255) (h3 : 0 ≤ size) (h4 : size ≤ 2000) (h5 : size + 1 ≤ x.Y) (h6 : x.Y - x.yu < size + 1) :
    Calls Try.prog 34 #[.pointer (some ⟨x.hp, 0, none⟩), .int .i64 kind, .int .i64 size] w fun e w' => e = .returned (.tuple #[.int .i64 0, .int .i64 2]) ∧ ∃ n, w' = w.drewN n := by
  have c1 : w.cell? ⟨x.hp, 0 + 1, none⟩ = some (.int .i64 x.Y) := (h.cell 1).trans rfl
  have c1' : w.cell? ⟨x.hp, 1, none⟩ = some (.int .i64 x.Y) := (h.cell 1).trans rfl
  have c2 : w.cell? ⟨x.hp, 0 + 2, none⟩ = some (.int .i64 x.yu) := (h.cell 2).trans rfl
  have q1 := h.ok.Y0; have q2 := h.ok.Y1; have q3 := h.ok.yu0; have q4 := h.ok.yu1
  have q5 : x.yu ≤ 100000 := by omega
  clear h
  go_enter Try.func34, Try.ntmps34
  go_wp2_with (go_at_call 48; refine (gfree_raw x.hp 0 x.Y x.yu _ c1 c2 q1 q2 q3 q5).mono ?_; rintro e w' ⟨rfl, m, rfl⟩)
  go_ret2
  exact ⟨rfl, _, rfl⟩
set_option maxRecDepth 100000 in
set_option maxHeartbeats 1000000 in
theorem Alloc_make_y (h : HRep w base x) (kind : Int) (n : Nat) (h1 : 0 ≤ kind) (h2 : kind ≤ 255) (h4 : n ≤ 2000) (h5 : (n : Int) + 1 ≤ x.Y) (h6 : (n : Int) + 1 ≤ x.Y - x.yu) :
    Calls Try.prog 34 #[.pointer (some ⟨x.hp, 0, none⟩), .int .i64 kind, .int .i64 n] w fun e w' => e = .returned (.tuple #[.int .i64 (x.fy + x.yu), .int .i64 0]) ∧
      ∃ v', HRep w' base { x with yu := x.yu + n + 1, yv := v', yb := x.yb ++ [newPB w (x.fy + x.yu) kind n] } ∧ Keeps x.fp w w' ∧ (∀ k, ({ x with yu := x.yu + n + 1, yv := v', yb := x.yb ++ [newPB w (x.fy + x.yu) kind n] } : PH).fp k → x.fp k ∨ w.heap.size ≤ k) := by
  have c1 : w.cell? ⟨x.hp, 0 + 1, none⟩ = some (.int .i64 x.Y) := (h.cell 1).trans rfl
  have c1' : w.cell? ⟨x.hp, 1, none⟩ = some (.int .i64 x.Y) := (h.cell 1).trans rfl
  have c2 : w.cell? ⟨x.hp, 0 + 2, none⟩ = some (.int .i64 x.yu) := (h.cell 2).trans rfl
  have q1 := h.ok.Y0; have q2 := h.ok.Y1; have q3 := h.ok.yu0; have q4 := h.ok.yu1
  have q5 : x.yu ≤ 100000 := by omega
  have h3 : 0 ≤ (n : Int) := by omega
  have h4' : (n : Int) ≤ 2000 := by omega
  have hmk := run_makeW n (by omega)
  have hlen : x.yb.length ≤ 100000 := by
    have := bused_len (x.yb.map PB.b); rw [List.length_map, ← h.ok.yu] at this; omega
  have hf := h.ok.fy (by omega)
  have HF : Hid (0 ≤ x.fy ∧ x.fy ≤ 100001) := Lib.hid (by rw [hf]; omega)
  clear hf
  go_enter Try.func34, Try.ntmps34
  go_wp2_with (go_at_call 48; refine (gfree_raw x.hp 0 x.Y x.yu _ c1 c2 q1 q2 q3 q5).mono ?_; rintro e w' ⟨rfl, m, rfl⟩)
  change Calls _ _ _ (boxed (w.drewN m) kind n) _
  have g1 := h.drewN m
  have g2 : Blk (boxed (w.drewN m) kind n) x.hp x.cells 81 := (g1.blk.alloc _).alloc _
  have g3 : Blk (boxed (w.drewN m) kind n) (w.heap.size + 1) #[.int .i64 0, .int .i64 kind, .slice (some ⟨w.heap.size, 0, none⟩) n n] 91 := by
    have := Blk.new ((w.drewN m).alloc (.cells (flat (List.replicate n wd0)) 33)) #[.int .i64 0, .int .i64 kind, .slice (some ⟨w.heap.size, 0, none⟩) n n] 91
    rw [World.size_alloc] at this; exact this
  have g4 : (boxed (w.drewN m) kind n).ownsRow base 89 1 x.yv x.yb.length (x.yb.map PB.ptr) := ownsRow_keeps g1.yrow fun k hk => by
    have hk' := (h.yrow.lt k hk).2
    unfold boxed; rw [Below.heap_alloc _ _ _ (by simp; omega)]; exact Below.heap_alloc _ _ _ hk'
  refine (push_raw _ base x.hp 0 (w.heap.size + 1) x.cells _ 81 (by decide) g2 x.fy x.yu n x.yv _ _ rfl rfl rfl HF.out.1 HF.out.2 q3 q5 g3 rfl _ n rfl (by omega) (by have := h.blk.lt; omega) g4 hlen (by have := h.base_ x.hp (.inl rfl); have := h.blk.lt; simp [boxed]; omega)).mono ?_
  rintro e w2 ⟨rfl, v', hpush⟩
  have hm : ∃ m, x.av = .map (some m) := by
    obtain ⟨es, c, hm, -⟩ := h.amap
    rcases hm with ⟨hm, _⟩ | ⟨m, hm, _⟩
    · have := h.ok.nil (.inl hm); omega
    · exact ⟨m, hm⟩
  obtain ⟨ma, hma⟩ := hm
  obtain ⟨es, c, hmv, he, hg⟩ := h.amap
  rw [hma] at hmv
  have hes : w2.heap[ma]? = some (.map es c) := by
    have h0 := hmv.lt
    have hlt := (Array.getElem?_eq_some_iff.1 h0).1
    refine (hpush.keeps.block ma (by simp [boxed]; omega) ?_).trans ?_
    · rintro (e | e | e)
      · have := h.blk; unfold Blk at this; rw [← e, h0] at this; cases this
      · omega
      · obtain ⟨cur, hc⟩ := ownsRow_type h.yrow e; unfold Blk at hc; rw [h0] at hc; cases hc
    · unfold boxed; rw [Below.heap_alloc _ _ _ (by simp; omega)]; exact (Below.heap_alloc _ _ _ hlt).trans h0
  obtain ⟨es', c', hrun, he', hg', -, -⟩ := run_mapUpdate_int (P := Try.prog) Try.underlying78 (q := .i64) Try.underlying3 ma he (x.fy + x.yu) (.pointer (some ⟨w.heap.size + 1, 0, none⟩))
  have hfin := fun h0 => HRep.alloc_y (w := w.drewN m) (w2 := w2) (w3 := w2.putObj ma (.map es' c')) g1 kind n hpush hma hes rfl he' hg hg' h0
  have HFIN := Lib.hid (hfin h6)
  have k8 : w2.cell? ⟨x.hp, 8, none⟩ = some (.map (some ma)) := by rw [hpush.blk.cell 8, ← hma]; rfl
  have k0 : w2.cell? ⟨w.heap.size + 1, 0, none⟩ = some (.int .i64 (x.fy + x.yu)) := by rw [hpush.pb.cell 0]; rfl
  have Hrun := Lib.hid hrun; have Hes := Lib.hid hes
  clear hfin hrun hg hg' he he' hmv hma hes hpush g1 g2 g3 g4 c1 c1' c2 h
  go_wp2
  refine wp_region_still_tail 9 (by kernel_rfl) (by kernel_rfl) ?_
  simp only [List.take_succ_cons, List.take_zero, List.drop_succ_cons, List.drop_zero]
  change wpStill _ _ w2.drew (fun a' => wpList _ _ _ _ a' w2.drew) _ _
  have HFIN2 : Hid (HRep (w2.drew.putObj ma (.map es' c')) base { x with yu := x.yu + n + 1, yv := v', yb := x.yb ++ [newPB w (x.fy + x.yu) kind n] } ∧ Keeps x.fp w (w2.drew.putObj ma (.map es' c')) ∧ (∀ k, ({ x with yu := x.yu + n + 1, yv := v', yb := x.yb ++ [newPB w (x.fy + x.yu) kind n] } : PH).fp k → x.fp k ∨ w.heap.size ≤ k)) := Lib.hid ⟨HFIN.out.1.drew, HFIN.out.2.1.undrew.drew, HFIN.out.2.2⟩
  have k8 : w2.drew.cell? ⟨x.hp, 8, none⟩ = some (.map (some ma)) := k8
  have k0 : w2.drew.cell? ⟨w.heap.size + 1, 0, none⟩ = some (.int .i64 (x.fy + x.yu)) := k0
  have Hes2 : Hid (w2.drew.heap[ma]? = some (.map es c)) := Hes
  clear HFIN Hes
  generalize w2.drew = w3 at HFIN2 k8 k0 Hes2 ⊢
  repeat still_step
  refine wpStill_nil ?_
  refine wpList_mapUpdate_at rfl _ _ _ _ rfl (Hrun.out w3 Hes2.out) ?_
  intro w4 hw4
  rw [← hw4] at HFIN2
  have k0' : w4.cell? ⟨w.heap.size + 1, 0, none⟩ = some (.int .i64 (x.fy + x.yu)) := by rw [hw4]; exact cell_putObj Hes2.out _ k0
  clear hw4 k0 k8 Hes2 Hrun
  go_wp2
  go_ret2
  exact ⟨rfl, v', HFIN2.out⟩
-- OLD
set_option maxHeartbeats 400000 in
theorem Alloc_full_o (h : HRep w base x) (kind size : Int) (h1 : 0 ≤ kind) (h2 : kind ≤ 255) (h3 : 0 ≤ size) (h4 : size ≤ 2000) (h5 : x.Y < size + 1) (h6 : x.O - x.ou < size + 1) :
    Calls Try.prog 34 #[.pointer (some ⟨x.hp, 0, none⟩), .int .i64 kind, .int .i64 size] w fun e w' => e = .returned (.tuple #[.int .i64 0, .int .i64 2]) ∧ ∃ n, w' = w.drewN n := by
  have c1 : w.cell? ⟨x.hp, 4 + 1, none⟩ = some (.int .i64 x.O) := (h.cell 5).trans rfl
  have c1' : w.cell? ⟨x.hp, 1, none⟩ = some (.int .i64 x.Y) := (h.cell 1).trans rfl
  have c2 : w.cell? ⟨x.hp, 4 + 2, none⟩ = some (.int .i64 x.ou) := (h.cell 6).trans rfl
  have q1 := h.ok.O0; have q2 := h.ok.O1; have q3 := h.ok.ou0; have q4 := h.ok.ou1; have r1 := h.ok.Y0; have r2 := h.ok.Y1
  have q5 : x.ou ≤ 100000 := by omega
  clear h
  go_enter Try.func34, Try.ntmps34
  go_wp2_with (go_at_call 48; refine (gfree_raw x.hp 4 x.O x.ou _ c1 c2 q1 q2 q3 q5).mono ?_; rintro e w' ⟨rfl, m, rfl⟩)
  go_ret2
  exact ⟨rfl, _, rfl⟩
set_option maxRecDepth 100000 in
set_option maxHeartbeats 1000000 in
theorem Alloc_make_o (h : HRep w base x) (kind : Int) (n : Nat) (h1 : 0 ≤ kind) (h2 : kind ≤ 255) (h4 : n ≤ 2000) (h5 : x.Y < (n : Int) + 1) (h6 : (n : Int) + 1 ≤ x.O - x.ou) :
    Calls Try.prog 34 #[.pointer (some ⟨x.hp, 0, none⟩), .int .i64 kind, .int .i64 n] w fun e w' => e = .returned (.tuple #[.int .i64 (x.fo + x.ou), .int .i64 0]) ∧
      ∃ v', HRep w' base { x with ou := x.ou + n + 1, ov := v', ob := x.ob ++ [newPB w (x.fo + x.ou) kind n] } ∧ Keeps x.fp w w' ∧ (∀ k, ({ x with ou := x.ou + n + 1, ov := v', ob := x.ob ++ [newPB w (x.fo + x.ou) kind n] } : PH).fp k → x.fp k ∨ w.heap.size ≤ k) := by
  have c1 : w.cell? ⟨x.hp, 4 + 1, none⟩ = some (.int .i64 x.O) := (h.cell 5).trans rfl
  have c1' : w.cell? ⟨x.hp, 1, none⟩ = some (.int .i64 x.Y) := (h.cell 1).trans rfl
  have c2 : w.cell? ⟨x.hp, 4 + 2, none⟩ = some (.int .i64 x.ou) := (h.cell 6).trans rfl
  have q1 := h.ok.O0; have q2 := h.ok.O1; have q3 := h.ok.ou0; have q4 := h.ok.ou1; have r1 := h.ok.Y0; have r2 := h.ok.Y1
  have q5 : x.ou ≤ 100000 := by omega
  have h3 : 0 ≤ (n : Int) := by omega
  have h4' : (n : Int) ≤ 2000 := by omega
  have hmk := run_makeW n (by omega)
  have hlen : x.ob.length ≤ 100000 := by
    have := bused_len (x.ob.map PB.b); rw [List.length_map, ← h.ok.ou] at this; omega
  have hf := h.ok.fo (by omega)
  have HF : Hid (0 ≤ x.fo ∧ x.fo ≤ 100001) := Lib.hid (by rw [hf]; omega)
  clear hf
  go_enter Try.func34, Try.ntmps34
  go_wp2_with (go_at_call 48; refine (gfree_raw x.hp 4 x.O x.ou _ c1 c2 q1 q2 q3 q5).mono ?_; rintro e w' ⟨rfl, m, rfl⟩)
  change Calls _ _ _ (boxed (w.drewN m) kind n) _
  have g1 := h.drewN m
  have g2 : Blk (boxed (w.drewN m) kind n) x.hp x.cells 81 := (g1.blk.alloc _).alloc _
  have g3 : Blk (boxed (w.drewN m) kind n) (w.heap.size + 1) #[.int .i64 0, .int .i64 kind, .slice (some ⟨w.heap.size, 0, none⟩) n n] 91 := by
    have := Blk.new ((w.drewN m).alloc (.cells (flat (List.replicate n wd0)) 33)) #[.int .i64 0, .int .i64 kind, .slice (some ⟨w.heap.size, 0, none⟩) n n] 91
    rw [World.size_alloc] at this; exact this
  have g4 : (boxed (w.drewN m) kind n).ownsRow base 89 1 x.ov x.ob.length (x.ob.map PB.ptr) := ownsRow_keeps g1.orow fun k hk => by
    have hk' := (h.orow.lt k hk).2
    unfold boxed; rw [Below.heap_alloc _ _ _ (by simp; omega)]; exact Below.heap_alloc _ _ _ hk'
  refine (push_raw _ base x.hp 4 (w.heap.size + 1) x.cells _ 81 (by decide) g2 x.fo x.ou n x.ov _ _ rfl rfl rfl HF.out.1 HF.out.2 q3 q5 g3 rfl _ n rfl (by omega) (by have := h.blk.lt; omega) g4 hlen (by have := h.base_ x.hp (.inl rfl); have := h.blk.lt; simp [boxed]; omega)).mono ?_
  rintro e w2 ⟨rfl, v', hpush⟩
  have hm : ∃ m, x.av = .map (some m) := by
    obtain ⟨es, c, hm, -⟩ := h.amap
    rcases hm with ⟨hm, _⟩ | ⟨m, hm, _⟩
    · have := h.ok.nil (.inl hm); omega
    · exact ⟨m, hm⟩
  obtain ⟨ma, hma⟩ := hm
  obtain ⟨es, c, hmv, he, hg⟩ := h.amap
  rw [hma] at hmv
  have hes : w2.heap[ma]? = some (.map es c) := by
    have h0 := hmv.lt
    have hlt := (Array.getElem?_eq_some_iff.1 h0).1
    refine (hpush.keeps.block ma (by simp [boxed]; omega) ?_).trans ?_
    · rintro (e | e | e)
      · have := h.blk; unfold Blk at this; rw [← e, h0] at this; cases this
      · omega
      · obtain ⟨cur, hc⟩ := ownsRow_type h.orow e; unfold Blk at hc; rw [h0] at hc; cases hc
    · unfold boxed; rw [Below.heap_alloc _ _ _ (by simp; omega)]; exact (Below.heap_alloc _ _ _ hlt).trans h0
  obtain ⟨es', c', hrun, he', hg', -, -⟩ := run_mapUpdate_int (P := Try.prog) Try.underlying78 (q := .i64) Try.underlying3 ma he (x.fo + x.ou) (.pointer (some ⟨w.heap.size + 1, 0, none⟩))
  have hfin := fun h0 => HRep.alloc_o (w := w.drewN m) (w2 := w2) (w3 := w2.putObj ma (.map es' c')) g1 kind n hpush hma hes rfl he' hg hg' h0
  have HFIN := Lib.hid (hfin h6)
  have k8 : w2.cell? ⟨x.hp, 8, none⟩ = some (.map (some ma)) := by rw [hpush.blk.cell 8, ← hma]; rfl
  have k0 : w2.cell? ⟨w.heap.size + 1, 0, none⟩ = some (.int .i64 (x.fo + x.ou)) := by rw [hpush.pb.cell 0]; rfl
  have Hrun := Lib.hid hrun; have Hes := Lib.hid hes
  clear hfin hrun hg hg' he he' hmv hma hes hpush g1 g2 g3 g4 c1 c1' c2 h
  go_wp2
  refine wp_region_still_tail 9 (by kernel_rfl) (by kernel_rfl) ?_
  simp only [List.take_succ_cons, List.take_zero, List.drop_succ_cons, List.drop_zero]
  change wpStill _ _ w2.drew (fun a' => wpList _ _ _ _ a' w2.drew) _ _
  have HFIN2 : Hid (HRep (w2.drew.putObj ma (.map es' c')) base { x with ou := x.ou + n + 1, ov := v', ob := x.ob ++ [newPB w (x.fo + x.ou) kind n] } ∧ Keeps x.fp w (w2.drew.putObj ma (.map es' c')) ∧ (∀ k, ({ x with ou := x.ou + n + 1, ov := v', ob := x.ob ++ [newPB w (x.fo + x.ou) kind n] } : PH).fp k → x.fp k ∨ w.heap.size ≤ k)) := Lib.hid ⟨HFIN.out.1.drew, HFIN.out.2.1.undrew.drew, HFIN.out.2.2⟩
  have k8 : w2.drew.cell? ⟨x.hp, 8, none⟩ = some (.map (some ma)) := k8
  have k0 : w2.drew.cell? ⟨w.heap.size + 1, 0, none⟩ = some (.int .i64 (x.fo + x.ou)) := k0
  have Hes2 : Hid (w2.drew.heap[ma]? = some (.map es c)) := Hes
  clear HFIN Hes
  generalize w2.drew = w3 at HFIN2 k8 k0 Hes2 ⊢
  repeat still_step
  refine wpStill_nil ?_
  refine wpList_mapUpdate_at rfl _ _ _ _ rfl (Hrun.out w3 Hes2.out) ?_
  intro w4 hw4
  rw [← hw4] at HFIN2
  have k0' : w4.cell? ⟨w.heap.size + 1, 0, none⟩ = some (.int .i64 (x.fo + x.ou)) := by rw [hw4]; exact cell_putObj Hes2.out _ k0
  clear hw4 k0 k8 Hes2 Hrun
  go_wp2
  go_ret2
  exact ⟨rfl, v', HFIN2.out⟩
-- END

/-- Alloc, without where the heap lies: the heap behind it, the address, the error. -/
def LH.alloc (h : LH) (kind size : Int) : LH × Int × Int :=
  if kind < 0 ∨ 255 < kind ∨ size < 0 ∨ 2000 < size then (h, 0, 1)
  else if size + 1 ≤ h.Y then
    if size + 1 ≤ h.Y - bused h.yb then ({ h with yb := h.yb ++ [⟨1 + bused h.yb, kind, List.replicate size.toNat wd0⟩] }, 1 + bused h.yb, 0) else (h, 0, 2)
  else if size + 1 ≤ h.O - bused h.ob then ({ h with ob := h.ob ++ [⟨h.Y + 1 + bused h.ob, kind, List.replicate size.toNat wd0⟩] }, h.Y + 1 + bused h.ob, 0) else (h, 0, 2)

/-- The heap x of w has become one that is l'. -/
def Step (w : World) (base : Nat) (x : PH) (l' : LH) (w' : World) : Prop :=
  ∃ x', HRep w' base x' ∧ x'.hp = x.hp ∧ x'.log = l' ∧ Keeps x.fp w w' ∧ ∀ k, x'.fp k → x.fp k ∨ w.heap.size ≤ k
theorem Step.same {w w' : World} {base : Nat} {x : PH} (h : HRep w base x) (hk : Ext w w') : Step w base x x.log w' :=
  ⟨x, h.ext hk, rfl, rfl, hk.mono fun _ _ => False.elim, fun k hk => .inl hk⟩

/-- The heap x of w has been collected: it has become one that is l', and its words lie where they lay. -/
def StepC (w : World) (base : Nat) (x : PH) (l' : LH) (w' : World) : Prop :=
  ∃ x', HRep w' base x' ∧ x'.hp = x.hp ∧ x'.log = l' ∧ Keeps x.fp w w' ∧ (∀ k, x'.fp k → x.fp k ∨ w.heap.size ≤ k) ∧ ∀ k ∈ x'.all.map PB.arr, k ∈ x.all.map PB.arr
theorem StepC.step {w w' : World} {base : Nat} {x : PH} {l' : LH} (h : StepC w base x l' w') : Step w base x l' w' := by
  obtain ⟨x', h1, h2, h3, h4, h5, h6⟩ := h
  exact ⟨x', h1, h2, h3, h4, h5⟩
theorem StepC.same {w w' : World} {base : Nat} {x : PH} (h : HRep w base x) (hk : Ext w w') : StepC w base x x.log w' :=
  ⟨x, h.ext hk, rfl, rfl, hk.mono fun _ _ => False.elim, fun k hk => .inl hk, fun k hk => hk⟩

theorem Alloc_any (h : HRep w base x) (kind size : Int) :
    Calls Try.prog 34 #[.pointer (some ⟨x.hp, 0, none⟩), .int .i64 kind, .int .i64 size] w fun e w' => e = .returned (.tuple #[.int .i64 (x.log.alloc kind size).2.1, .int .i64 (x.log.alloc kind size).2.2]) ∧ Step w base x (x.log.alloc kind size).1 w' := by
  by_cases h1 : kind < 0 ∨ 255 < kind ∨ size < 0 ∨ 2000 < size
  · simp only [LH.alloc, if_pos h1]
    refine (Alloc_arg _ kind size h1 w).mono ?_
    rintro e w' ⟨rfl, rfl⟩
    exact ⟨rfl, Step.same h (Ext.refl _)⟩
  · simp only [LH.alloc, if_neg h1]
    have hu := h.ok.yu
    have ho := h.ok.ou
    by_cases h5 : size + 1 ≤ x.Y
    · rw [if_pos (show size + 1 ≤ x.log.Y from h5)]
      by_cases h6 : size + 1 ≤ x.Y - x.yu
      · rw [if_pos (show size + 1 ≤ x.log.Y - bused x.log.yb by rw [show bused x.log.yb = x.yu from hu.symm]; exact h6)]
        obtain ⟨n, rfl⟩ := Int.eq_ofNat_of_zero_le (show 0 ≤ size by omega)
        refine (Alloc_make_y h kind n (by omega) (by omega) (by omega) h5 h6).mono ?_
        rintro e w' ⟨rfl, v', h7, h8, h9⟩
        have hfy := h.ok.fy (by omega)
        refine ⟨by rw [hfy, hu]; rfl, _, h7, rfl, ?_, h8, h9⟩
        simp only [PH.log, List.map_append, List.map_cons, List.map_nil, newPB, Int.toNat_natCast]
        rw [hfy, hu]
      · rw [if_neg (show ¬ size + 1 ≤ x.log.Y - bused x.log.yb by rw [show bused x.log.yb = x.yu from hu.symm]; exact h6)]
        refine (Alloc_full_y h kind size (by omega) (by omega) (by omega) (by omega) h5 (by omega)).mono ?_
        rintro e w' ⟨rfl, n, rfl⟩
        exact ⟨rfl, Step.same h ((Ext.refl _).drewN n)⟩
    · rw [if_neg (show ¬ size + 1 ≤ x.log.Y from h5)]
      by_cases h6 : size + 1 ≤ x.O - x.ou
      · rw [if_pos (show size + 1 ≤ x.log.O - bused x.log.ob by rw [show bused x.log.ob = x.ou from ho.symm]; exact h6)]
        obtain ⟨n, rfl⟩ := Int.eq_ofNat_of_zero_le (show 0 ≤ size by omega)
        refine (Alloc_make_o h kind n (by omega) (by omega) (by omega) (by omega) h6).mono ?_
        rintro e w' ⟨rfl, v', h7, h8, h9⟩
        have hfo := h.ok.fo (by have := h.ok.ou0; omega)
        refine ⟨by rw [hfo, ho]; rfl, _, h7, rfl, ?_, h8, h9⟩
        simp only [PH.log, List.map_append, List.map_cons, List.map_nil, newPB, Int.toNat_natCast]
        rw [hfo, ho]
      · rw [if_neg (show ¬ size + 1 ≤ x.log.O - bused x.log.ob by rw [show bused x.log.ob = x.ou from ho.symm]; exact h6)]
        refine (Alloc_full_o h kind size (by omega) (by omega) (by omega) (by omega) (by omega) (by omega)).mono ?_
        rintro e w' ⟨rfl, n, rfl⟩
        exact ⟨rfl, Step.same h ((Ext.refl _).drewN n)⟩
end
end Go.Proofs.Ytikigppfnhilhaa
/- New: a heap without blocks. -/
namespace Go.Proofs.Ytikigppfnhilhaa
open Go.RowKit Go.Instr
set_option linter.unusedVariables false
set_option linter.unusedSimpArgs false

set_option maxHeartbeats 1000000 in
theorem New_bad (y o : Int) (hb : y < 0 ∨ 100000 < y ∨ o < 0 ∨ 100000 < o) (w : World) :
    Calls Try.prog 29 #[.int .i64 y, .int .i64 o] w fun e w' => e = .returned (.tuple #[.pointer none, .int .i64 2]) ∧ w' = w := by
  go_enter Try.func29, Try.ntmps29
  go_wp2
  all_goals (go_ret2; exact ⟨rfl, rfl⟩)

/-- A new heap's number, and those of its maps. -/
def newPH (b : Nat) (y o : Int) : PH := ⟨b + 1 + 1, 1, y, 0, .slice none 0 0, y + 1, o, 0, .slice none 0 0, .map (some b), .map (some (b + 1)), [], [], []⟩
theorem HRep.new (w : World) (y o : Int) (hy0 : 0 ≤ y) (hy1 : y ≤ 100000) (ho0 : 0 ≤ o) (ho1 : o ≤ 100000) :
    HRep (((w.alloc (.map #[] 0)).alloc (.map #[] 0)).alloc (.cells (newPH w.heap.size y o).cells 81)) w.heap.size (newPH w.heap.size y o) where
  blk := by have := Blk.new ((w.alloc (.map #[] 0)).alloc (.map #[] 0)) (newPH w.heap.size y o).cells 81; simpa [newPH] using this
  yrow := World.ownsRow_nil _ _ _ _
  orow := World.ownsRow_nil _ _ _ _
  rows := fun k h => by simp [newPH, Value.ownBlock] at h
  amap := ⟨#[], 0, .inr ⟨w.heap.size, rfl, by
    rw [Ext.heap ((Ext.refl _).alloc _) _ (by simp; omega), Ext.heap ((Ext.refl _).alloc _) _ (by simp)]; exact World.alloc_heap_new _ _⟩, IntEs.empty _, fun k => by simp [esGet, atOf, PH.all, newPH]⟩
  rmap := ⟨#[], 0, .inr ⟨w.heap.size + 1, rfl, by
    rw [Ext.heap ((Ext.refl _).alloc _) _ (by simp)]; have := World.alloc_heap_new (w.alloc (.map #[] 0)) (.map #[] 0); simpa using this⟩, IntEs.empty _, fun k => by simp [esGet, newPH]⟩
  maps := fun k h => by simp [newPH] at h ⊢; omega
  pbs := fun y hy => by simp [PH.all, newPH] at hy
  ps := by simp [PH.all, newPH]
  arrs := by simp [PH.all, newPH]
  base_ := fun k hk => by
    rcases hk with h | h | h | h | h | h | h <;> simp [newPH, Value.ownBlock, PH.all] at h <;> omega
  ok := ⟨hy0, hy1, ho0, ho1, rfl, rfl, hy0, ho0, fun _ => rfl, fun _ => rfl, by simp [newPH], trivial, trivial⟩

set_option maxHeartbeats 1000000 in
theorem New_good (y o : Int) (hy0 : 0 ≤ y) (hy1 : y ≤ 100000) (ho0 : 0 ≤ o) (ho1 : o ≤ 100000) (w : World) :
    Calls Try.prog 29 #[.int .i64 y, .int .i64 o] w fun e w' => ∃ x, e = .returned (.tuple #[.pointer (some ⟨x.hp, 0, none⟩), .int .i64 0]) ∧ HRep w' w.heap.size x ∧ x.log = ⟨y, o, [], [], []⟩ ∧ Ext w w' := by
  have hmm := fun W => run_makeMap (P := Try.prog) 78 W
  have hmr := fun W => run_makeMap (P := Try.prog) 79 W
  go_enter Try.func29, Try.ntmps29
  go_wp2
  go_ret2
  exact ⟨newPH w.heap.size y o, rfl, HRep.new w y o hy0 hy1 ho0 ho1, rfl, (((Ext.refl w).alloc _).alloc _).alloc _⟩
end Go.Proofs.Ytikigppfnhilhaa
