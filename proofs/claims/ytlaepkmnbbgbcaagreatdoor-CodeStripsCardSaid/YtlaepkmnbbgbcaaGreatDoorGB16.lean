/- slices.Clone at the four element types of a code. (Written by wip/tools/genQC.py.) Strip in plain Lean; what holds while it runs; its closure. A region that draws its order (HG), where S need only hold until operation f is done: f waits for all quiet operations. -/
import Derived.Test.YtlaepkmnbbgbcaaGreatDoorGB15
import Derived.Lib.SliceRun
import Derived.Test.YtlaepkmnbbgbcaaGreatDoorGB4
/- slices.Clone at the four element types of a code. (Written by wip/tools/genQC.py.) -/
namespace Go.Proofs.YtlaepkmnbbgbcaaGreatDoor
open Go.RowKit Go.Instr Go.Shelf
set_option linter.unusedVariables false
set_option linter.unusedSimpArgs false
attribute [local go_sem] Oper.semAt_some

theorem own_rd {α : Type} {enc : α → List Value} {w : World} {base : Nat} {e : TypeId} {size : Nat} {v : Value} {l : List α} (hk : ∀ x, (enc x).length = size) (h : w.ownsRow base e size v l.length (l.flatMap enc)) : RdL enc w v l := by
  rcases h.2 with ⟨rfl, hl⟩ | ⟨g, cap, cur, rfl, h1, h2, h3, h4, h5, h6⟩
  · have : l = [] := List.length_eq_zero_iff.1 hl
    subst this; exact RdL.nil w
  · refine ⟨_, _, rfl, h3, fun e => (by cases e), fun ad had j u hu => ?_⟩
    injection had with had; subst had
    have ea : (⟨g, 0, none⟩ : Addr).add j = ⟨g, j, none⟩ := by unfold Addr.add; split <;> simp_all
    have hb : Blk w g cur e := h2
    rw [ea, hb.cell j]
    rw [← h6, List.getElem?_take] at hu
    split at hu
    · simpa using hu
    · cases hu
theorem run_append_noneG {P : Program} {w : World} (base : Nat) (t ty e : TypeId) (i : TypeInfo) (size : Nat) (ht : P.underlying t = some (.slice e)) (hi : P.info? e = some i)
    (v : Value) (n : Nat) (xs : List Value) (hown : w.ownsRow base e size v n xs) (c : Nat) :
    (Builtin.append_ #[t, t] ty #[v, .slice none 0 c]).run P w = .ok v w := by
  rcases hown.2 with ⟨rfl, rfl⟩ | ⟨g, cap, cur, rfl, _, _, hnc, _⟩
  · simp [Builtin.append_, run_underlying ht, sizeOf, typeInfo, hi, Builtin.lenOf, Builtin.firstCells]
  · simp [Builtin.append_, run_underlying ht, sizeOf, typeInfo, hi, Builtin.lenOf, Builtin.firstCells, hnc, storeCells]
theorem info_clI : (Tryz.prog.info? 3).map (fun i => (i.zero, i.size, i.bytes)) = some (some (.int .i64 0), 1, 8) := by kernel_rfl
set_option maxRecDepth 100000 in
theorem cloneI_any {w : World} {v : Value} {l : List Int} (h : RdL encI w v l) (hl : l.length ≤ 1000000000) :
    Calls Tryz.prog 48 #[v] w fun e w' => ∃ v', e = .returned v' ∧ w'.ownsRow w.heap.size 3 1 v' l.length (l.flatMap encI) ∧ Ex w w' := by
  obtain ⟨a, c, rfl, -, h0, h1⟩ := id h
  have q22 : ∀ (w : World) (a : Option Addr) (n c n' c' : Nat), (binOp .eql 47 (.slice a n c) (.slice none n' c')).run Tryz.prog w = .ok (.bool a.isNone) w := fun w a n c n' c' => Lib.run_eql_slice_nil w _ _ a n c n' c' Tryz.underlying47
  cases a with
  | none =>
    have : l = [] := h0 rfl
    subst this
    have ho : w.ownsRow w.heap.size 3 1 (.slice none 0 0) 0 [] := World.ownsRow_nil _ _ _ _
    have hx : Ex w w := Keeps.refl _ w
    have HO := Lib.hid ho; have HX := Lib.hid hx
    clear h h0 h1 ho hx
    go_enter Tryz.func48, Tryz.ntmps48
    go_wp2_with fail
    go_ret
    exact ⟨_, rfl, HO.out, HX.out⟩
  | some ad =>
    obtain ⟨W1, hW1⟩ : ∃ W1, w.alloc (.cells #[] 3) = W1 := ⟨_, rfl⟩
    obtain ⟨b, hb⟩ : ∃ b, w.heap.size = b := ⟨_, rfl⟩
    have hX1 : Ex w W1 := by rw [← hW1]; exact (Keeps.refl _ w).alloc _
    have hO1 : W1.ownsRow b 3 1 (.slice (some ⟨b, 0, none⟩) 0 0) 0 [] := by
      rw [← hW1, ← hb]; exact World.ownsRow_made w #[] 0 (Nat.le_refl _) (by decide) rfl
    have hs1 : b ≤ W1.heap.size := by rw [← hW1, World.size_alloc, hb]; omega
    have hR1 := h.ext hX1
    have HX1 := Lib.hid hX1; have HO1 := Lib.hid hO1; have HR1 := Lib.hid hR1; have HW1 := Lib.hid hW1; have Hb := Lib.hid hb; have Hs1 := Lib.hid hs1
    clear h h0 h1 hX1 hO1 hR1 hW1 hb hs1
    go_enter Tryz.func48, Tryz.ntmps48
    go_wp2_with (at_builtin; refine (fun h => h trivial : (True → _) → _) ?_)
    intro _
    rw [HW1.out]
    try rw [Hb.out]
    obtain ⟨i0, hi, hz0, hz1, hz2⟩ := info_split info_clI
    obtain ⟨_, _, e1, -, -, e2⟩ := HR1.out
    injection e1 with e1 _ _
    refine wpList_append_fresh rfl _ _ 47 rfl b 3 i0 _ 1 8 Tryz.underlying47 hi hz0 hz1 hz2 rfl (by decide) (.slice (some ⟨b, 0, none⟩) 0 0) 0 _ rfl HO1.out ad l.length _ (l.flatMap encI) rfl (flat_len encI_len l) (e2 ad e1.symm) (by intro u hu; obtain ⟨y, _, hy⟩ := List.mem_flatMap.1 hu; revert hy; unfold encI; simp only [List.mem_cons, List.not_mem_nil, or_false]; intro hy; (try rcases hy with rfl | rfl | rfl | rfl) <;> (try rcases hy with rfl | rfl) <;> (try subst hy) <;> rfl) (by unfold maxLen; omega) (by omega) Hs1.out ?_
    intro v' w' g1 g2 g3 g4
    have hx : Ex w w' := by
      refine Keeps.grown HX1.out g2 fun k hk => .inr ?_
      have : b = k := by simpa [Value.ownBlock] using hk
      rw [Hb.out]; omega
    have ho : w'.ownsRow b 3 1 v' l.length (l.flatMap encI) := by simpa using g1
    have HX := Lib.hid hx; have HO := Lib.hid ho
    clear g1 g2 g3 g4 hx ho e1 e2 hi
    go_wp2_with fail
    go_ret
    exact ⟨_, rfl, by rw [Hb.out]; exact HO.out, HX.out⟩
theorem info_clV : (Tryz.prog.info? 88).map (fun i => (i.zero, i.size, i.bytes)) = some (some (.agg #[.int .i64 0, .int .i64 0, .int .i64 0, .int .i64 0]), 4, 32) := by kernel_rfl
set_option maxRecDepth 100000 in
theorem cloneV_any {w : World} {v : Value} {l : List Vt} (h : RdL encV w v l) (hl : l.length ≤ 1000000000) :
    Calls Tryz.prog 49 #[v] w fun e w' => ∃ v', e = .returned v' ∧ w'.ownsRow w.heap.size 88 4 v' l.length (l.flatMap encV) ∧ Ex w w' := by
  obtain ⟨a, c, rfl, -, h0, h1⟩ := id h
  have q22 : ∀ (w : World) (a : Option Addr) (n c n' c' : Nat), (binOp .eql 48 (.slice a n c) (.slice none n' c')).run Tryz.prog w = .ok (.bool a.isNone) w := fun w a n c n' c' => Lib.run_eql_slice_nil w _ _ a n c n' c' Tryz.underlying48
  cases a with
  | none =>
    have : l = [] := h0 rfl
    subst this
    have ho : w.ownsRow w.heap.size 88 4 (.slice none 0 0) 0 [] := World.ownsRow_nil _ _ _ _
    have hx : Ex w w := Keeps.refl _ w
    have HO := Lib.hid ho; have HX := Lib.hid hx
    clear h h0 h1 ho hx
    go_enter Tryz.func49, Tryz.ntmps49
    go_wp2_with fail
    go_ret
    exact ⟨_, rfl, HO.out, HX.out⟩
  | some ad =>
    obtain ⟨W1, hW1⟩ : ∃ W1, w.alloc (.cells #[] 88) = W1 := ⟨_, rfl⟩
    obtain ⟨b, hb⟩ : ∃ b, w.heap.size = b := ⟨_, rfl⟩
    have hX1 : Ex w W1 := by rw [← hW1]; exact (Keeps.refl _ w).alloc _
    have hO1 : W1.ownsRow b 88 4 (.slice (some ⟨b, 0, none⟩) 0 0) 0 [] := by
      rw [← hW1, ← hb]; exact World.ownsRow_made w #[] 0 (Nat.le_refl _) (by decide) rfl
    have hs1 : b ≤ W1.heap.size := by rw [← hW1, World.size_alloc, hb]; omega
    have hR1 := h.ext hX1
    have HX1 := Lib.hid hX1; have HO1 := Lib.hid hO1; have HR1 := Lib.hid hR1; have HW1 := Lib.hid hW1; have Hb := Lib.hid hb; have Hs1 := Lib.hid hs1
    clear h h0 h1 hX1 hO1 hR1 hW1 hb hs1
    go_enter Tryz.func49, Tryz.ntmps49
    go_wp2_with (at_builtin; refine (fun h => h trivial : (True → _) → _) ?_)
    intro _
    rw [HW1.out]
    try rw [Hb.out]
    obtain ⟨i0, hi, hz0, hz1, hz2⟩ := info_split info_clV
    obtain ⟨_, _, e1, -, -, e2⟩ := HR1.out
    injection e1 with e1 _ _
    refine wpList_append_fresh rfl _ _ 48 rfl b 88 i0 _ 4 32 Tryz.underlying48 hi hz0 hz1 hz2 rfl (by decide) (.slice (some ⟨b, 0, none⟩) 0 0) 0 _ rfl HO1.out ad l.length _ (l.flatMap encV) rfl (flat_len encV_len l) (e2 ad e1.symm) (by intro u hu; obtain ⟨y, _, hy⟩ := List.mem_flatMap.1 hu; revert hy; unfold encV; simp only [List.mem_cons, List.not_mem_nil, or_false]; intro hy; (try rcases hy with rfl | rfl | rfl | rfl) <;> (try rcases hy with rfl | rfl) <;> (try subst hy) <;> rfl) (by unfold maxLen; omega) (by omega) Hs1.out ?_
    intro v' w' g1 g2 g3 g4
    have hx : Ex w w' := by
      refine Keeps.grown HX1.out g2 fun k hk => .inr ?_
      have : b = k := by simpa [Value.ownBlock] using hk
      rw [Hb.out]; omega
    have ho : w'.ownsRow b 88 4 v' l.length (l.flatMap encV) := by simpa using g1
    have HX := Lib.hid hx; have HO := Lib.hid ho
    clear g1 g2 g3 g4 hx ho e1 e2 hi
    go_wp2_with fail
    go_ret
    exact ⟨_, rfl, by rw [Hb.out]; exact HO.out, HX.out⟩
theorem info_clS : (Tryz.prog.info? 9).map (fun i => (i.zero, i.size, i.bytes)) = some (some (.string ⟨#[]⟩), 1, 16) := by kernel_rfl
set_option maxRecDepth 100000 in
theorem cloneS_any {w : World} {v : Value} {l : List ByteArray} (h : RdL encS w v l) (hl : l.length ≤ 1000000000) :
    Calls Tryz.prog 50 #[v] w fun e w' => ∃ v', e = .returned v' ∧ w'.ownsRow w.heap.size 9 1 v' l.length (l.flatMap encS) ∧ Ex w w' := by
  obtain ⟨a, c, rfl, -, h0, h1⟩ := id h
  have q22 : ∀ (w : World) (a : Option Addr) (n c n' c' : Nat), (binOp .eql 24 (.slice a n c) (.slice none n' c')).run Tryz.prog w = .ok (.bool a.isNone) w := fun w a n c n' c' => Lib.run_eql_slice_nil w _ _ a n c n' c' Tryz.underlying24
  cases a with
  | none =>
    have : l = [] := h0 rfl
    subst this
    have ho : w.ownsRow w.heap.size 9 1 (.slice none 0 0) 0 [] := World.ownsRow_nil _ _ _ _
    have hx : Ex w w := Keeps.refl _ w
    have HO := Lib.hid ho; have HX := Lib.hid hx
    clear h h0 h1 ho hx
    go_enter Tryz.func50, Tryz.ntmps50
    go_wp2_with fail
    go_ret
    exact ⟨_, rfl, HO.out, HX.out⟩
  | some ad =>
    obtain ⟨W1, hW1⟩ : ∃ W1, w.alloc (.cells #[] 9) = W1 := ⟨_, rfl⟩
    obtain ⟨b, hb⟩ : ∃ b, w.heap.size = b := ⟨_, rfl⟩
    have hX1 : Ex w W1 := by rw [← hW1]; exact (Keeps.refl _ w).alloc _
    have hO1 : W1.ownsRow b 9 1 (.slice (some ⟨b, 0, none⟩) 0 0) 0 [] := by
      rw [← hW1, ← hb]; exact World.ownsRow_made w #[] 0 (Nat.le_refl _) (by decide) rfl
    have hs1 : b ≤ W1.heap.size := by rw [← hW1, World.size_alloc, hb]; omega
    have hR1 := h.ext hX1
    have HX1 := Lib.hid hX1; have HO1 := Lib.hid hO1; have HR1 := Lib.hid hR1; have HW1 := Lib.hid hW1; have Hb := Lib.hid hb; have Hs1 := Lib.hid hs1
    clear h h0 h1 hX1 hO1 hR1 hW1 hb hs1
    go_enter Tryz.func50, Tryz.ntmps50
    go_wp2_with (at_builtin; refine (fun h => h trivial : (True → _) → _) ?_)
    intro _
    rw [HW1.out]
    try rw [Hb.out]
    obtain ⟨i0, hi, hz0, hz1, hz2⟩ := info_split info_clS
    obtain ⟨_, _, e1, -, -, e2⟩ := HR1.out
    injection e1 with e1 _ _
    refine wpList_append_fresh rfl _ _ 24 rfl b 9 i0 _ 1 16 Tryz.underlying24 hi hz0 hz1 hz2 rfl (by decide) (.slice (some ⟨b, 0, none⟩) 0 0) 0 _ rfl HO1.out ad l.length _ (l.flatMap encS) rfl (flat_len encS_len l) (e2 ad e1.symm) (by intro u hu; obtain ⟨y, _, hy⟩ := List.mem_flatMap.1 hu; revert hy; unfold encS; simp only [List.mem_cons, List.not_mem_nil, or_false]; intro hy; (try rcases hy with rfl | rfl | rfl | rfl) <;> (try rcases hy with rfl | rfl) <;> (try subst hy) <;> rfl) (by unfold maxLen; omega) (by omega) Hs1.out ?_
    intro v' w' g1 g2 g3 g4
    have hx : Ex w w' := by
      refine Keeps.grown HX1.out g2 fun k hk => .inr ?_
      have : b = k := by simpa [Value.ownBlock] using hk
      rw [Hb.out]; omega
    have ho : w'.ownsRow b 9 1 v' l.length (l.flatMap encS) := by simpa using g1
    have HX := Lib.hid hx; have HO := Lib.hid ho
    clear g1 g2 g3 g4 hx ho e1 e2 hi
    go_wp2_with fail
    go_ret
    exact ⟨_, rfl, by rw [Hb.out]; exact HO.out, HX.out⟩
theorem info_clL : (Tryz.prog.info? 94).map (fun i => (i.zero, i.size, i.bytes)) = some (some (.agg #[.int .i64 0, .int .i64 0]), 2, 16) := by kernel_rfl
set_option maxRecDepth 100000 in
theorem cloneL_any {w : World} {v : Value} {l : List (Int × Int)} (h : RdL encL w v l) (hl : l.length ≤ 1000000000) :
    Calls Tryz.prog 51 #[v] w fun e w' => ∃ v', e = .returned v' ∧ w'.ownsRow w.heap.size 94 2 v' l.length (l.flatMap encL) ∧ Ex w w' := by
  obtain ⟨a, c, rfl, -, h0, h1⟩ := id h
  have q22 : ∀ (w : World) (a : Option Addr) (n c n' c' : Nat), (binOp .eql 25 (.slice a n c) (.slice none n' c')).run Tryz.prog w = .ok (.bool a.isNone) w := fun w a n c n' c' => Lib.run_eql_slice_nil w _ _ a n c n' c' Tryz.underlying25
  cases a with
  | none =>
    have : l = [] := h0 rfl
    subst this
    have ho : w.ownsRow w.heap.size 94 2 (.slice none 0 0) 0 [] := World.ownsRow_nil _ _ _ _
    have hx : Ex w w := Keeps.refl _ w
    have HO := Lib.hid ho; have HX := Lib.hid hx
    clear h h0 h1 ho hx
    go_enter Tryz.func51, Tryz.ntmps51
    go_wp2_with fail
    go_ret
    exact ⟨_, rfl, HO.out, HX.out⟩
  | some ad =>
    obtain ⟨W1, hW1⟩ : ∃ W1, w.alloc (.cells #[] 94) = W1 := ⟨_, rfl⟩
    obtain ⟨b, hb⟩ : ∃ b, w.heap.size = b := ⟨_, rfl⟩
    have hX1 : Ex w W1 := by rw [← hW1]; exact (Keeps.refl _ w).alloc _
    have hO1 : W1.ownsRow b 94 2 (.slice (some ⟨b, 0, none⟩) 0 0) 0 [] := by
      rw [← hW1, ← hb]; exact World.ownsRow_made w #[] 0 (Nat.le_refl _) (by decide) rfl
    have hs1 : b ≤ W1.heap.size := by rw [← hW1, World.size_alloc, hb]; omega
    have hR1 := h.ext hX1
    have HX1 := Lib.hid hX1; have HO1 := Lib.hid hO1; have HR1 := Lib.hid hR1; have HW1 := Lib.hid hW1; have Hb := Lib.hid hb; have Hs1 := Lib.hid hs1
    clear h h0 h1 hX1 hO1 hR1 hW1 hb hs1
    go_enter Tryz.func51, Tryz.ntmps51
    go_wp2_with (at_builtin; refine (fun h => h trivial : (True → _) → _) ?_)
    intro _
    rw [HW1.out]
    try rw [Hb.out]
    obtain ⟨i0, hi, hz0, hz1, hz2⟩ := info_split info_clL
    obtain ⟨_, _, e1, -, -, e2⟩ := HR1.out
    injection e1 with e1 _ _
    refine wpList_append_fresh rfl _ _ 25 rfl b 94 i0 _ 2 16 Tryz.underlying25 hi hz0 hz1 hz2 rfl (by decide) (.slice (some ⟨b, 0, none⟩) 0 0) 0 _ rfl HO1.out ad l.length _ (l.flatMap encL) rfl (flat_len encL_len l) (e2 ad e1.symm) (by intro u hu; obtain ⟨y, _, hy⟩ := List.mem_flatMap.1 hu; revert hy; unfold encL; simp only [List.mem_cons, List.not_mem_nil, or_false]; intro hy; (try rcases hy with rfl | rfl | rfl | rfl) <;> (try rcases hy with rfl | rfl) <;> (try subst hy) <;> rfl) (by unfold maxLen; omega) (by omega) Hs1.out ?_
    intro v' w' g1 g2 g3 g4
    have hx : Ex w w' := by
      refine Keeps.grown HX1.out g2 fun k hk => .inr ?_
      have : b = k := by simpa [Value.ownBlock] using hk
      rw [Hb.out]; omega
    have ho : w'.ownsRow b 94 2 v' l.length (l.flatMap encL) := by simpa using g1
    have HX := Lib.hid hx; have HO := Lib.hid ho
    clear g1 g2 g3 g4 hx ho e1 e2 hi
    go_wp2_with fail
    go_ret
    exact ⟨_, rfl, by rw [Hb.out]; exact HO.out, HX.out⟩
end Go.Proofs.YtlaepkmnbbgbcaaGreatDoor
/- Strip in plain Lean; what holds while it runs; its closure. -/
namespace Go.Proofs.YtlaepkmnbbgbcaaGreatDoor
open Go.RowKit Go.Instr Go.Shelf
set_option linter.unusedVariables false
set_option linter.unusedSimpArgs false
attribute [local go_sem] Oper.semAt_some

/-! ### Plain -/
def notMark (x : Ins) : Bool := !(x.op == 53)
def toN (c : Co) (i : Nat) : Int := (((c.instrs.take i).filter notMark).length : Nat)
def toL (c : Co) : List Int := (List.range c.instrs.length).map (toN c)
def movedC (c : Co) (n : Int) : Int := if n < 0 then n else (toL c).getD n.toNat 0
def moveI (c : Co) (x : Ins) : Ins := if x.op = 42 ∨ x.op = 43 then { x with a := movedC c x.a } else x
def stripI (c : Co) : List Ins := (c.instrs.filter notMark).map (moveI c)
def stripD (c : Co) (d : De) : De := { d with init := movedC c d.init, enter := movedC c d.enter, do_ := movedC c d.do_, exit := movedC c d.exit }
def stripL (c : Co) (l : Int × Int) : Int × Int := (movedC c l.1, movedC c l.2)
def stripC (c : Co) : Co := ⟨c.descs.map (stripD c), c.labels.map (stripL c), c.texts, c.reals, stripI c⟩
theorem toL_len (c : Co) : (toL c).length = c.instrs.length := by simp [toL]
theorem toL_take (c : Co) {k : Nat} (hk : k < c.instrs.length) : (toL c).take (k + 1) = (toL c).take k ++ [toN c k] := by
  have : (toL c)[k]? = some (toN c k) := by simp [toL, hk]
  rw [List.take_add_one, this]; rfl
theorem toL_at (c : Co) {k : Nat} (hk : k < c.instrs.length) : (toL c).getD k 0 = toN c k := by
  rw [List.getD_eq_getElem?_getD]; simp [toL, hk]

/-! ### Rows and blocks beside each other -/
theorem grow_blk {w w' : World} {base : Nat} {e : TypeId} {size n : Nat} {v : Value} {xs : List Value} (ho : w.ownsRow base e size v n xs) (hg : w.grownBy w' v.ownBlock) {b : Nat} {c : Array Value} {t : TypeId} (hb : Blk w b c t) (hne : t ≠ e) : Blk w' b c t := by
  unfold Blk
  rw [hg.block b hb.lt (fun e1 => ?_)]; exact hb
  obtain ⟨cur, hc⟩ := own_type ho e1.symm
  unfold Blk at hb
  rw [hb] at hc; injection hc with hc; injection hc with _ hc _; exact hne hc
theorem grow_row {w w' : World} {base base' : Nat} {e e' : TypeId} {size size' n n' : Nat} {v v' : Value} {xs xs' : List Value} (ho : w.ownsRow base e size v n xs) (hg : w.grownBy w' v.ownBlock) (hr : w.ownsRow base' e' size' v' n' xs') (hne : e' ≠ e) : w'.ownsRow base' e' size' v' n' xs' := by
  refine ⟨hr.1, ?_⟩
  rcases hr.2 with h2 | ⟨g, cap, cur, h1, h2, h3, r⟩
  · exact .inl h2
  · exact .inr ⟨g, cap, cur, h1, h2, grow_blk (b := g) ho hg h3 hne, r⟩
theorem set_row {w : World} {base : Nat} {e : TypeId} {size n : Nat} {v : Value} {xs : List Value} (hr : w.ownsRow base e size v n xs) {b : Nat} {c : Array Value} {t : TypeId} (hb : Blk w b c t) (hne : t ≠ e) (i : Nat) (u : Value) : (w.setCell ⟨b, i, none⟩ u).ownsRow base e size v n xs := by
  refine own_far hr (fun k hk => ?_) u
  show k ≠ b
  rintro rfl
  obtain ⟨cur, hc⟩ := own_type hr hk
  unfold Blk at hb
  rw [hb] at hc; injection hc with hc; injection hc with _ hc _; exact hne hc
theorem own_grow_ex {w0 w w' : World} {base : Nat} {e : TypeId} {size n : Nat} {v : Value} {xs : List Value} (hx : Ex w0 w) (ho : w.ownsRow base e size v n xs) (hg : w.grownBy w' v.ownBlock) (hb : w0.heap.size ≤ base) : Ex w0 w' :=
  hx.grown hg fun k hk => .inr (by have := (ho.lt k hk).1; omega)
theorem row_base {w : World} {base base' : Nat} {e : TypeId} {size n : Nat} {v : Value} {xs : List Value} (h : w.ownsRow base e size v n xs) (hb : base' ≤ base) : w.ownsRow base' e size v n xs := by
  refine ⟨h.1, ?_⟩
  rcases h.2 with h2 | ⟨g, cap, cur, h1, h2, r⟩
  · exact .inl h2
  · exact .inr ⟨g, cap, cur, h1, Nat.le_trans hb h2, r⟩

/-! ### What holds while it runs -/
/-- The rows of a descriptor are the call's own. -/
structure OwnDe (V : World) (B : Nat) (x : DeV) : Prop where
  chain : V.ownsRow B 3 1 x.chain x.d.chain.length (x.d.chain.flatMap encI)
  up : V.ownsRow B 3 1 x.up x.d.up.length (x.d.up.flatMap encI)
  virts : V.ownsRow B 88 4 x.virts x.d.virts.length (x.d.virts.flatMap encV)
theorem OwnDe.rd {V : World} {B : Nat} {x : DeV} (h : OwnDe V B x) : RdDe V x := ⟨own_rd encI_len h.chain, own_rd encI_len h.up, own_rd encV_len h.virts⟩
theorem OwnDe.ext {V V' : World} {B : Nat} {x : DeV} (h : OwnDe V B x) (hx : Ex V V') : OwnDe V' B x := ⟨own_kept h.chain hx, own_kept h.up hx, own_kept h.virts hx⟩
theorem OwnDe.grow {V V' : World} {B base : Nat} {x : DeV} {e : TypeId} {size n : Nat} {v : Value} {xs : List Value} (h : OwnDe V B x) (ho : V.ownsRow base e size v n xs) (hg : V.grownBy V' v.ownBlock) (h1 : e ≠ 3) (h2 : e ≠ 88) : OwnDe V' B x :=
  ⟨grow_row ho hg h.chain h1.symm, grow_row ho hg h.up h1.symm, grow_row ho hg h.virts h2.symm⟩
theorem OwnDe.set {V : World} {B : Nat} {x : DeV} (h : OwnDe V B x) {b : Nat} {c : Array Value} {t : TypeId} (hb : Blk V b c t) (h1 : t ≠ 3) (h2 : t ≠ 88) (i : Nat) (u : Value) : OwnDe (V.setCell ⟨b, i, none⟩ u) B x :=
  ⟨set_row h.chain hb h1 i u, set_row h.up hb h1 i u, set_row h.virts hb h2 i u⟩
abbrev nil5 : Array Value := #[.slice none 0 0, .slice none 0 0, .slice none 0 0, .slice none 0 0, .slice none 0 0]
structure StS (w : World) (b1 bC bt bo : Nat) (v1 : Array Value) (tv dv lv iv : Value) (to : List Int) (ds : List DeV) (ls : List (Int × Int)) (is : List Ins) (V : World) : Prop where
  ex : Ex w V
  k1 : Blk V b1 v1 28
  kC : Blk V bC nil5 28
  kt : Blk V bt #[tv] 47
  ko : Blk V bo #[dv, lv, .slice none 0 0, .slice none 0 0, iv] 28
  rTo : V.ownsRow w.heap.size 3 1 tv to.length (to.flatMap encI)
  rDs : V.ownsRow w.heap.size 50 11 dv ds.length (ds.flatMap encD)
  rDe : ∀ x ∈ ds, OwnDe V w.heap.size x
  rLs : V.ownsRow w.heap.size 90 2 lv ls.length (ls.flatMap encL)
  rIs : V.ownsRow w.heap.size 82 3 iv is.length (is.flatMap encN)
section
variable {w : World} {b1 bC bt bo : Nat} {v1 : Array Value} {tv dv lv iv : Value} {to : List Int} {ds : List DeV} {ls : List (Int × Int)} {is : List Ins} {V V' : World}
theorem StS.ext (h : StS w b1 bC bt bo v1 tv dv lv iv to ds ls is V) (hx : Ex V V') : StS w b1 bC bt bo v1 tv dv lv iv to ds ls is V' :=
  ⟨h.ex.trans hx, hx.blk h.k1 id, hx.blk h.kC id, hx.blk h.kt id, hx.blk h.ko id, own_kept h.rTo hx, own_kept h.rDs hx, fun x hh => (h.rDe x hh).ext hx, own_kept h.rLs hx, own_kept h.rIs hx⟩
/-- One more of the places. -/
theorem StS.growTo (h : StS w b1 bC bt bo v1 tv dv lv iv to ds ls is V) (hg : V.grownBy V' tv.ownBlock) {tv' : Value} {m : Int} (ho : V'.ownsRow w.heap.size 3 1 tv' (to.length + 1) (to.flatMap encI ++ encI m)) (hwt : w.heap.size ≤ bt) (hd : ds = []) :
    Blk V' bt #[tv] 47 ∧ StS w b1 bC bt bo v1 tv' dv lv iv (to ++ [m]) ds ls is (V'.setCell ⟨bt, 0, none⟩ tv') := by
  have g := fun {b c t} (hb : Blk V b c t) (hne : t ≠ 3) => grow_blk h.rTo hg hb hne
  have hkt := g h.kt (by decide)
  have f := fun {b c t} (hb : Blk V b c t) (hne : t ≠ 3) (hn : t ≠ 47) => (g hb hne).far (a := ⟨bt, 0, none⟩) ((g hb hne).ne hkt hn) tv'
  subst hd
  refine ⟨hkt, (own_grow_ex h.ex h.rTo hg (Nat.le_refl _)).setCell (.inr hwt) _, f h.k1 (by decide) (by decide), f h.kC (by decide) (by decide), hkt.set 0 tv', f h.ko (by decide) (by decide), ?_, set_row (grow_row h.rTo hg h.rDs (by decide)) hkt (by decide) _ _, (fun x hx => by cases hx), set_row (grow_row h.rTo hg h.rLs (by decide)) hkt (by decide) _ _, set_row (grow_row h.rTo hg h.rIs (by decide)) hkt (by decide) _ _⟩
  have := set_row ho hkt (by decide) 0 tv'
  rw [List.length_append, List.flatMap_append]
  simpa using this
/-- One more of the instructions. -/
theorem StS.growI (h : StS w b1 bC bt bo v1 tv dv lv iv to ds ls is V) (hg : V.grownBy V' iv.ownBlock) {iv' : Value} {m : Ins} (ho : V'.ownsRow w.heap.size 82 3 iv' (is.length + 1) (is.flatMap encN ++ encN m)) (hwo : w.heap.size ≤ bo) (h1 : b1 ≠ bo) (hC : bC ≠ bo) :
    Blk V' bo #[dv, lv, .slice none 0 0, .slice none 0 0, iv] 28 ∧ StS w b1 bC bt bo v1 tv dv lv iv' to ds ls (is ++ [m]) (V'.setCell ⟨bo, 4, none⟩ iv') := by
  have g := fun {b c t} (hb : Blk V b c t) (hne : t ≠ 82) => grow_blk h.rIs hg hb hne
  have hko := g h.ko (by decide)
  refine ⟨hko, (own_grow_ex h.ex h.rIs hg (Nat.le_refl _)).setCell (.inr hwo) _, (g h.k1 (by decide)).far h1 _, (g h.kC (by decide)).far hC _, (g h.kt (by decide)).far ((g h.kt (by decide)).ne hko (by decide)) _, hko.set 4 iv', set_row (grow_row h.rIs hg h.rTo (by decide)) hko (by decide) _ _, set_row (grow_row h.rIs hg h.rDs (by decide)) hko (by decide) _ _, (fun x hx => ((h.rDe x hx).grow h.rIs hg (by decide) (by decide)).set hko (by decide) (by decide) _ _), set_row (grow_row h.rIs hg h.rLs (by decide)) hko (by decide) _ _, ?_⟩
  have := set_row ho hko (by decide) 4 iv'
  rw [List.length_append, List.flatMap_append]
  simpa using this
theorem StS.growD (h : StS w b1 bC bt bo v1 tv dv lv iv to ds ls is V) (hg : V.grownBy V' dv.ownBlock) {dv' : Value} {m : DeV} (ho : V'.ownsRow w.heap.size 50 11 dv' (ds.length + 1) (ds.flatMap encD ++ encD m)) (hm : OwnDe V w.heap.size m) (hwo : w.heap.size ≤ bo) (h1 : b1 ≠ bo) (hC : bC ≠ bo) :
    Blk V' bo #[dv, lv, .slice none 0 0, .slice none 0 0, iv] 28 ∧ StS w b1 bC bt bo v1 tv dv' lv iv to (ds ++ [m]) ls is (V'.setCell ⟨bo, 0, none⟩ dv') := by
  have g := fun {b c t} (hb : Blk V b c t) (hne : t ≠ 50) => grow_blk h.rDs hg hb hne
  have hko := g h.ko (by decide)
  refine ⟨hko, (own_grow_ex h.ex h.rDs hg (Nat.le_refl _)).setCell (.inr hwo) _, (g h.k1 (by decide)).far h1 _, (g h.kC (by decide)).far hC _, (g h.kt (by decide)).far ((g h.kt (by decide)).ne hko (by decide)) _, hko.set 0 dv', set_row (grow_row h.rDs hg h.rTo (by decide)) hko (by decide) _ _, ?_, (fun x hx => ?_), set_row (grow_row h.rDs hg h.rLs (by decide)) hko (by decide) _ _, set_row (grow_row h.rDs hg h.rIs (by decide)) hko (by decide) _ _⟩
  · have := set_row ho hko (by decide) 0 dv'
    rw [List.length_append, List.flatMap_append]
    simpa using this
  · have : OwnDe V w.heap.size x := by
      rcases List.mem_append.1 hx with hx | hx
      · exact h.rDe x hx
      · obtain rfl : x = m := by simpa using hx
        exact hm
    exact (this.grow h.rDs hg (by decide) (by decide)).set hko (by decide) (by decide) _ _
theorem StS.growL (h : StS w b1 bC bt bo v1 tv dv lv iv to ds ls is V) (hg : V.grownBy V' lv.ownBlock) {lv' : Value} {m : Int × Int} (ho : V'.ownsRow w.heap.size 90 2 lv' (ls.length + 1) (ls.flatMap encL ++ encL m)) (hwo : w.heap.size ≤ bo) (h1 : b1 ≠ bo) (hC : bC ≠ bo) :
    Blk V' bo #[dv, lv, .slice none 0 0, .slice none 0 0, iv] 28 ∧ StS w b1 bC bt bo v1 tv dv lv' iv to ds (ls ++ [m]) is (V'.setCell ⟨bo, 1, none⟩ lv') := by
  have g := fun {b c t} (hb : Blk V b c t) (hne : t ≠ 90) => grow_blk h.rLs hg hb hne
  have hko := g h.ko (by decide)
  refine ⟨hko, (own_grow_ex h.ex h.rLs hg (Nat.le_refl _)).setCell (.inr hwo) _, (g h.k1 (by decide)).far h1 _, (g h.kC (by decide)).far hC _, (g h.kt (by decide)).far ((g h.kt (by decide)).ne hko (by decide)) _, hko.set 1 lv', set_row (grow_row h.rLs hg h.rTo (by decide)) hko (by decide) _ _, set_row (grow_row h.rLs hg h.rDs (by decide)) hko (by decide) _ _, (fun x hx => ((h.rDe x hx).grow h.rLs hg (by decide) (by decide)).set hko (by decide) (by decide) _ _), ?_, set_row (grow_row h.rLs hg h.rIs (by decide)) hko (by decide) _ _⟩
  have := set_row ho hko (by decide) 1 lv'
  rw [List.length_append, List.flatMap_append]
  simpa using this
end
set_option maxRecDepth 100000 in
theorem moved_any {V : World} {c : Co} {bt : Nat} {tv : Value} (hk : Blk V bt #[tv] 47) (ho : RdL encI V tv (toL c)) (hlc : c.instrs.length ≤ 1000000) {n : Int} (hn : n < c.instrs.length) :
    Calls Tryz.prog 47 #[.int .i64 n, .pointer (some ⟨bt, 0, none⟩)] V fun e w' => e = .returned (.int .i64 (movedC c n)) ∧ w' = V := by
  by_cases h0 : n < 0
  · have e : movedC c n = n := by unfold movedC; rw [if_pos h0]
    rw [e]
    clear hk ho
    go_enter Tryz.func47, Tryz.ntmps47
    go_wp2_with fail
    go_ret
    exact ⟨rfl, rfl⟩
  · obtain ⟨k, rfl⟩ : ∃ k : Nat, n = k := ⟨n.toNat, by omega⟩
    have e : movedC c k = (toL c).getD k 0 := by unfold movedC; rw [if_neg h0]; rfl
    rw [e]
    obtain ⟨a, cp, rfl, -, h2, -⟩ := id ho
    have hlt : k < (toL c).length := by rw [toL_len]; omega
    obtain ⟨ad, rfl⟩ : ∃ ad, a = some ad := by
      cases a with
      | none => have := h2 rfl; rw [this] at hlt; simp at hlt
      | some ad => exact ⟨ad, rfl⟩
    have z := ho.int_at hlt
    have y : V.cell? ⟨bt, 0, none⟩ = some (.slice (some ad) (toL c).length cp) := (hk.cell 0).trans rfl
    have g1 : ((k : Int) < (toL c).length) := by omega
    have g0 : ¬ ((k : Int) < 0) := by omega
    clear hk ho h2
    generalize (toL c).getD k 0 = m at z ⊢
    go_enter Tryz.func47, Tryz.ntmps47
    go_wp2_with fail
    go_ret
    exact ⟨rfl, rfl⟩
/-! ### Instructions set in place -/
def isk (c : Co) (l : List Ins) (k : Nat) : List Ins := (l.take k).map (moveI c) ++ l.drop k
theorem isk_zero (c : Co) (l : List Ins) : isk c l 0 = l := by simp [isk]
theorem isk_len (c : Co) (l : List Ins) (k : Nat) (hk : k ≤ l.length) : (isk c l k).length = l.length := by
  unfold isk; rw [List.length_append, List.length_map, List.length_take, List.length_drop]; omega
theorem isk_full (c : Co) (l : List Ins) : isk c l l.length = l.map (moveI c) := by simp [isk]
theorem isk_at (c : Co) (l : List Ins) {k : Nat} {x : Ins} (hx : l[k]? = some x) : (isk c l k)[k]? = some x := by
  have hlt : k < l.length := (List.getElem?_eq_some_iff.1 hx).1
  unfold isk
  rw [List.getElem?_append_right (by rw [List.length_map, List.length_take]; omega), List.length_map, List.length_take, List.getElem?_drop]
  rw [show k + (k - min k l.length) = k by omega]; exact hx
theorem isk_succ (c : Co) (l : List Ins) {k : Nat} {x : Ins} (hx : l[k]? = some x) : isk c l (k + 1) = (isk c l k).set k (moveI c x) := by
  have hlt : k < l.length := (List.getElem?_eq_some_iff.1 hx).1
  have hd : l.drop k = x :: l.drop (k + 1) := by
    rw [List.drop_eq_getElem_cons hlt]; congr 1; exact (List.getElem?_eq_some_iff.1 hx).2
  have hl : ((l.take k).map (moveI c)).length = k := by rw [List.length_map, List.length_take]; omega
  unfold isk
  rw [hd, List.set_append_right _ _ (by omega), hl, Nat.sub_self, List.set_cons_zero, List.take_add_one, hx]
  simp
theorem isk_same (c : Co) (l : List Ins) {k : Nat} {x : Ins} (hx : l[k]? = some x) (hm : moveI c x = x) : isk c l (k + 1) = isk c l k := by
  rw [isk_succ c l hx, hm]
  refine List.ext_getElem? fun j => ?_
  rw [List.getElem?_set]
  split
  · rename_i h; subst h; rw [isk_at c l hx]; split <;> first | rfl | (rename_i h1; exact absurd (List.getElem?_eq_some_iff.1 (isk_at c l hx)).1 h1)
  · rfl
theorem set_flat (l : List Ins) : ∀ (k : Nat) (x : Ins) (m : Int), l[k]? = some x → (l.flatMap encN).set (k * 3 + 1) (.int .i64 m) = (l.set k { x with a := m }).flatMap encN := by
  induction l with
  | nil => intro k x m h; simp at h
  | cons y r ih =>
    intro k x m h
    cases k with
    | zero =>
      simp only [List.getElem?_cons_zero, Option.some.injEq] at h
      subst h; rfl
    | succ k =>
      simp only [List.getElem?_cons_succ] at h
      rw [List.set_cons_succ, List.flatMap_cons, List.flatMap_cons, ← ih k x m h]
      show (Value.int .i64 y.op :: .int .i64 y.a :: .int .i64 y.b :: r.flatMap encN).set ((k + 1) * 3 + 1) _ = _
      rw [show (k + 1) * 3 + 1 = (k * 3 + 1) + 1 + 1 + 1 by omega]
      rfl
section
variable {w : World} {b1 bC bt bo : Nat} {v1 : Array Value} {tv dv lv : Value} {to : List Int} {ds : List DeV} {ls : List (Int × Int)} {is : List Ins} {V : World} {g n cap : Nat}
theorem StS.setI (h : StS w b1 bC bt bo v1 tv dv lv (.slice (some ⟨g, 0, none⟩) n cap) to ds ls is V) {k : Nat} {x : Ins} (hx : is[k]? = some x) (m : Int) :
    StS w b1 bC bt bo v1 tv dv lv (.slice (some ⟨g, 0, none⟩) n cap) to ds ls (is.set k { x with a := m }) (V.setCell ⟨g, k * 3 + 1, none⟩ (.int .i64 m)) := by
  have en : n = is.length := by
    rcases h.rIs.2 with ⟨e, _⟩ | ⟨g', cap', cur, e, _⟩
    · cases e
    · injection e
  subst en
  have hst := h.rIs.stored (k * 3 + 1) (.int .i64 m)
  rw [set_flat is k x m hx] at hst
  obtain ⟨ho, hg⟩ := hst
  have gb := fun {b c t} (hb : Blk V b c t) (hne : t ≠ 82) => grow_blk h.rIs hg hb hne
  refine ⟨own_grow_ex h.ex h.rIs hg (Nat.le_refl _), gb h.k1 (by decide), gb h.kC (by decide), gb h.kt (by decide), gb h.ko (by decide), grow_row h.rIs hg h.rTo (by decide), grow_row h.rIs hg h.rDs (by decide), (fun y hy => (h.rDe y hy).grow h.rIs hg (by decide) (by decide)), grow_row h.rIs hg h.rLs (by decide), ?_⟩
  rw [List.length_set]; exact ho
end
/-! ### What a well-formed code says of its places -/
theorem filt_take (c : Co) {k : Nat} {x : Ins} (hx : c.instrs[k]? = some x) : (c.instrs.take (k + 1)).filter notMark = (c.instrs.take k).filter notMark ++ if notMark x then [x] else [] := by
  rw [List.take_add_one, hx, List.filter_append]
  congr 1
  show [x].filter notMark = _
  cases h : notMark x <;> simp [h]
theorem good_place {c : Co} {n : Int} (h : placeB c n = true) : n < c.instrs.length := by
  unfold placeB at h; simp only [Bool.and_eq_true, decide_eq_true_eq] at h; exact h.2
theorem good_inside {c : Co} {n : Int} (h : insideB c n = true) : n < c.instrs.length := by
  unfold insideB at h; simp only [Bool.and_eq_true, decide_eq_true_eq] at h; exact h.2
theorem good_desc {c : Co} (h : Good c) {d : De} (hd : d ∈ c.descs) : d.init < c.instrs.length ∧ d.enter < c.instrs.length ∧ d.do_ < c.instrs.length ∧ d.exit < c.instrs.length := by
  obtain ⟨i, hi⟩ := List.getElem?_of_mem hd
  have hlt := (List.getElem?_eq_some_iff.1 hi).1
  have hg := h.descs i hlt
  have hde : c.de i = d := by unfold Co.de; rw [List.getD_eq_getElem?_getD, show ((i : Int).toNat) = i from rfl, hi]; rfl
  unfold descB at hg
  simp only [Bool.and_eq_true, hde] at hg
  exact ⟨good_place hg.1.1.1.1.1.2, good_place hg.1.1.1.1.2, good_place hg.1.1.1.2, good_place hg.1.1.2⟩
theorem op_jump : (opFind 42).map Op1.a = some (.idx 102) := by kernel_rfl
theorem op_jumpfalse : (opFind 43).map Op1.a = some (.idx 102) := by kernel_rfl
theorem good_jump {c : Co} (h : Good c) {x : Ins} (hx : x ∈ c.instrs) (hj : x.op = 42 ∨ x.op = 43) : 0 ≤ x.a ∧ x.a < c.instrs.length := by
  have he := h.instrs x hx
  have hf : (opFind x.op).map Op1.a = some (.idx 102) := by
    rcases hj with e | e <;> rw [e]
    · exact op_jump
    · exact op_jumpfalse
  unfold insE at he
  cases ho : opFind x.op with
  | none => rw [ho] at hf; cases hf
  | some o =>
    rw [ho] at he hf
    simp only [Option.map_some, Option.some.injEq] at hf
    simp only at he
    split at he
    · rename_i hc
      simp only [Bool.and_eq_true] at hc
      have := hc.1
      rw [hf] at this
      unfold ckB Co.lenOf at this
      simpa using this
    · cases he
end Go.Proofs.YtlaepkmnbbgbcaaGreatDoor
/- A region that draws its order (HG), where S need only hold until operation f is done: f waits for all quiet operations. -/
namespace Go.Proofs.YtlaepkmnbbgbcaaGreatDoor
open Go.RowKit Go.Instr
set_option linter.unusedVariables false
section
variable {r : Option Nat} {n : Nat} {P : Program} {ops : Array Oper} {Q : Exit → Act → World → Prop} {S : World → Prop} {f : Nat}
def anyU (r : Option Nat) (n : Nat) (P : Program) (ops : Array Oper) (Q : Exit → Act → World → Prop) (S : World → Prop) (f : Nat) : Nat → Array Bool → Act → World → Prop
  | 0, listed, a, w => Region.ready .any ops listed = [] ∧ Q .normal a w
  | k + 1, listed, a, w =>
    (Region.ready .any ops listed = [] → Q .normal a w) ∧
    ∀ i ∈ Region.ready .any ops listed, wpOpIn (WF r) n P ops Q i (fun a' w' => ((listed.setIfInBounds i true).getD f false = true ∨ S w') ∧ anyU r n P ops Q S f k (listed.setIfInBounds i true) a' w') a w
theorem anyU_sound : ∀ (k : Nat) (listed : Array Bool) (a : Act) (w : World), anyU r n P ops Q S f k listed a w → wpAnyIn (WF r) n P .any ops Q k listed a w
  | 0, _, _, _, h => h
  | k + 1, listed, a, w, h => ⟨h.1, fun i hi => wpOpIn_mono (fun a' w' h' => anyU_sound k _ a' w' h'.2) (h.2 i hi)⟩
theorem unlisted_of {listed : Array Bool} (hcl : closedL ops listed) {i : Nat} (hr : i ∈ Region.ready .any ops listed) (hw : Region.waitsB ops 16 f i = true) : listed.getD f false ≠ true := fun h => by
  have h0 := (mem_ready.1 hr).1
  have h1 : listed.getD i false = true := by
    cases hof : ops[f]? with
    | none => simp [Region.waitsB, hof] at hw
    | some o => exact waits_listed hcl 16 f i o hof (hcl f o hof h) hw
  rcases Nat.lt_or_ge i listed.size with h' | h'
  · simp [h'] at h0 h1; rw [h0] at h1; cases h1
  · simp [Array.getElem?_eq_none h'] at h1
theorem anyU_first {i : Nat} {oi : Oper} {v : Value} (hd : Region.noDefer ops = true) (hf : Region.waitsB ops 16 f i = true) (hif : i ≠ f) (hi : ops[i]? = some oi) (hsel : ∀ (j : Nat) (o : Oper) cs b, ops[j]? = some o → o.op ≠ .select cs b)
    (hQ : ∀ c a w, Q (.panic c) (a.put oi.dst v) w → Q (.panic c) a w) :
    ∀ (k : Nat) (listed : Array Bool) (a : Act) (w : World), closedL ops listed →
      (∀ j oj, ops[j]? = some oj → j ≠ i → listed.getD j true = false → (∀ e ∈ oj.after, Region.binds .any e = true → e.on ≠ i) → oi.apart ops oj = true) →
      i ∈ Region.ready .any ops listed → S w → (∀ W, S W → YieldsAt P ops W oi v a) →
      anyU r n P ops Q S f k (listed.setIfInBounds i true) (a.put oi.dst v) w → anyU r n P ops Q S f (k + 1) listed a w := by
  intro k
  induction k with
  | zero =>
    intro listed a w _ _ hr hS hy H
    refine ⟨fun h => (by rw [h] at hr; cases hr), fun j hj => ?_⟩
    by_cases hji : j = i
    · subst hji; exact opIn_of_yields hd hi (hy w hS) ⟨.inr hS, H⟩
    · have := ready_mono hj hji
      rw [H.1] at this
      cases this
  | succ k ih =>
    intro listed a w hcl hfree hr hS hy H
    refine ⟨fun h => (by rw [h] at hr; cases hr), fun j hj => ?_⟩
    by_cases hji : j = i
    · subst hji; exact opIn_of_yields hd hi (hy w hS) ⟨.inr hS, H⟩
    · have h1 := H.2 j (ready_mono hj hji)
      obtain ⟨hjun, oj, hoj, hall⟩ := mem_ready.1 hj
      have hnot : ∀ e ∈ oj.after, Region.binds .any e = true → e.on ≠ i := fun e he hb heq => by
        have h1 := hall e he hb
        have h0 := (mem_ready.1 hr).1
        rw [heq] at h1
        rcases Nat.lt_or_ge i listed.size with h' | h'
        · simp [h'] at h0 h1; rw [h0] at h1; cases h1
        · simp [Array.getElem?_eq_none h'] at h1
      have h2 := opIn_put (S := S) hd hoj (hfree j oj hoj hji hjun hnot) (fun cs b => hsel i oi cs b hi) (fun cs b => hsel j oj cs b hoj) hQ hy h1
      have hfree' : ∀ m om, ops[m]? = some om → m ≠ i → (listed.setIfInBounds j true).getD m true = false →
          (∀ e ∈ om.after, Region.binds .any e = true → e.on ≠ i) → oi.apart ops om = true := fun m om hm hmi hun hno => by
        refine hfree m om hm hmi ?_ hno
        by_cases hjm : j = m
        · subst hjm; exact hjun
        · rw [getD_set_ne true hjm] at hun; exact hun
      have hr' := ready_mono hr (Ne.symm hji)
      have hcl' := hcl.set hj
      have hunf : (listed.setIfInBounds j true).getD f false ≠ true := unlisted_of hcl' hr' hf
      refine wpOpIn_mono (fun a' w' h3 => ?_) h2
      obtain ⟨h4, h5, h6⟩ := h3
      rw [Array.setIfInBounds_comm _ _ (Ne.symm hji)] at h5
      have hS' : S w' := by
        rcases h5 with h5 | h5
        · rw [getD_set_ne false hif] at h5; exact absurd h5 hunf
        · exact h5
      refine ⟨.inr hS', ih (listed.setIfInBounds j true) a' w' hcl' hfree' hr' hS' h4 ?_⟩
      rw [Array.setIfInBounds_comm _ _ hji]
      exact h6
/-- A quiet operation, taken next. -/
theorem anyU_quiet {k : Nat} {listed : Array Bool} {a a2 : Act} {w : World} (i : Nat) {oi : Oper} {d : Nat} (hi : ops[i]? = some oi) (hdst : oi.dst = some d) (hsz : decide (d < a.tmps.size) = true)
    (hd : Region.noDefer ops = true) (hs : Region.noSelect ops = true) (hl : (Region.waitsB ops 16 f i && !(i == f)) = true) (hf : Region.free .any ops listed i = true) (hr : (Region.ready .any ops listed).contains i = true) (hcl : Region.closedB ops listed = true)
    (hQ : ∀ c a v w, Q (.panic c) (Act.put a oi.dst v) w → Q (.panic c) a w) (hS : S w)
    (h : ∀ W, S W → ∀ K : Act → Prop, K a2 → if Region.wanted oi (yielded ops a.tmps) then oi.still P a W K else K (a.put oi.dst undef))
    (hk : anyU r n P ops Q S f k (listed.setIfInBounds i true) a2 w) : anyU r n P ops Q S f (k + 1) listed a w := by
  have hst : ∀ W, S W → ∃ v, YieldsAt P ops W oi v a ∧ a.put oi.dst v = a2 := fun W hW =>
    yieldsAt_of_stOp (i := i) (K := fun a' => a' = a2) hi (by
      have := h W hW (fun a' => a' = a2) rfl
      unfold stOp; simp only [hi]; exact this)
  obtain ⟨v, hv, h2⟩ := hst w hS
  have hsz := of_decide_eq_true hsz
  simp only [Bool.and_eq_true, Bool.not_eq_true', beq_eq_false_iff_ne] at hl
  have hall : ∀ W, S W → YieldsAt P ops W oi v a := fun W hW => by
    obtain ⟨u, hu, h3⟩ := hst W hW
    have : u = v := by
      rw [← h2, hdst] at h3
      have := congrArg (fun x : Act => x.tmps[d]?) h3
      simpa [Act.put, hsz] using this
    rw [← this]; exact hu
  rw [← h2] at hk
  exact anyU_first hd hl.1 hl.2 hi (Region.noSelect_spec hs) (fun c a w => hQ c a v w) k listed a w (closedB_spec hcl) (Region.free_spec hi hf) (by simpa using hr) hS hall hk
/-- The one operation that can come next. -/
theorem anyU_only {k : Nat} {listed : Array Bool} {a : Act} {w : World} (c : Nat) {o : Oper} (hi : ops[c]? = some o) (hr : Region.ready .any ops listed = [c])
    (h : wpListIn (WF r) n P ops (exitK (fun a' w' => ((listed.setIfInBounds c true).getD f false = true ∨ S w') ∧ anyU r n P ops Q S f k (listed.setIfInBounds c true) a' w') Q) [o] a w) : anyU r n P ops Q S f (k + 1) listed a w :=
  ⟨fun h0 => (by rw [hr] at h0; cases h0), fun i hi' => by
    rw [hr] at hi'
    obtain rfl : i = c := by simpa using hi'
    exact opIn_of_list hi h⟩
theorem anyU_done {listed : Array Bool} {a : Act} {w : World} (hr : Region.ready .any ops listed = []) (h : Q .normal a w) : ∀ k, anyU r n P ops Q S f k listed a w
  | 0 => ⟨hr, h⟩
  | _ + 1 => ⟨fun _ => h, by rw [hr]; simp⟩
theorem region_U_plain {id : Nat} {a : Act} {w : World} (S : World → Prop) (f : Nat) (hm : P.follows .mixedOrders = true) (h : anyU none n P ops Q S f ops.size (Array.replicate ops.size false) a w.drew) : (Code.region id ops true).wp P Q a w :=
  (wpIn_wide (n := n)).1 (wpIn_region_any hm (anyU_sound _ _ _ _ h))
end
end Go.Proofs.YtlaepkmnbbgbcaaGreatDoor
