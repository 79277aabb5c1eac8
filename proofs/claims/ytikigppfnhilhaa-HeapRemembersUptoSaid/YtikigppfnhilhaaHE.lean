/- New: a heap without blocks. -/
import Derived.Test.YtikigppfnhilhaaHX2
import Derived.Test.YtikigppfnhilhaaHAl
import Derived.Carry
namespace Go.Proofs.Ytikigppfnhilhaa
open Go.RowKit Go.Instr
set_option linter.unusedVariables false
set_option linter.unusedSimpArgs false

set_option maxHeartbeats 1000000 in
theorem New_bad (y o : Int) (hb : y < 0 ∨ 100000 < y ∨ o < 0 ∨ 100000 < o) (w : World) :
    Calls Try.prog 29 #[.int .i64 y, .int .i64 o] w fun e w' => e = .returned (.tuple #[.pointer none, .int .i64 2]) ∧ w' = w := by
  go_enter Try.func29, Try.ntmps29
  go_wp2
  all_goals (go_ret2; exact ⟨rfl, rfl⟩)

/-- A new heap's number, and those of its maps. -/
def newPH (b : Nat) (y o : Int) : PH := ⟨b + 1 + 1, 1, y, 0, .slice none 0 0, y + 1, o, 0, .slice none 0 0, .map (some b), .map (some (b + 1)), [], [], []⟩
theorem HRep.new (w : World) (y o : Int) (hy0 : 0 ≤ y) (hy1 : y ≤ 100000) (ho0 : 0 ≤ o) (ho1 : o ≤ 100000) :
    HRep (((w.alloc (.map #[] 0)).alloc (.map #[] 0)).alloc (.cells (newPH w.heap.size y o).cells 81)) w.heap.size (newPH w.heap.size y o) where
  blk := by have := Blk.new ((w.alloc (.map #[] 0)).alloc (.map #[] 0)) (newPH w.heap.size y o).cells 81; simpa [newPH] using this
  yrow := World.ownsRow_nil _ _ _ _
  orow := World.ownsRow_nil _ _ _ _
  rows := fun k h => by simp [newPH, Value.ownBlock] at h
  amap := ⟨#[], 0, .inr ⟨w.heap.size, rfl, by
    rw [Ext.heap ((Ext.refl _).alloc _) _ (by simp; omega), Ext.heap ((Ext.refl _).alloc _) _ (by simp)]; exact World.alloc_heap_new _ _⟩, IntEs.empty _, fun k => by simp [esGet, atOf, PH.all, newPH]⟩
  rmap := ⟨#[], 0, .inr ⟨w.heap.size + 1, rfl, by
    rw [Ext.heap ((Ext.refl _).alloc _) _ (by simp)]; have := World.alloc_heap_new (w.alloc (.map #[] 0)) (.map #[] 0); simpa using this⟩, IntEs.empty _, fun k => by simp [esGet, newPH]⟩
  maps := fun k h => by simp [newPH] at h ⊢; omega
  pbs := fun y hy => by simp [PH.all, newPH] at hy
  ps := by simp [PH.all, newPH]
  arrs := by simp [PH.all, newPH]
  base_ := fun k hk => by
    rcases hk with h | h | h | h | h | h | h <;> simp [newPH, Value.ownBlock, PH.all] at h <;> omega
  ok := ⟨hy0, hy1, ho0, ho1, rfl, rfl, hy0, ho0, fun _ => rfl, fun _ => rfl, by simp [newPH], trivial, trivial⟩

set_option maxHeartbeats 1000000 in
theorem New_good (y o : Int) (hy0 : 0 ≤ y) (hy1 : y ≤ 100000) (ho0 : 0 ≤ o) (ho1 : o ≤ 100000) (w : World) :
    Calls Try.prog 29 #[.int .i64 y, .int .i64 o] w fun e w' => ∃ x, e = .returned (.tuple #[.pointer (some ⟨x.hp, 0, none⟩), .int .i64 0]) ∧ HRep w' w.heap.size x ∧ x.log = ⟨y, o, [], [], []⟩ ∧ Ext w w' := by
  have hmm := fun W => run_makeMap (P := Try.prog) 78 W
  have hmr := fun W => run_makeMap (P := Try.prog) 79 W
  go_enter Try.func29, Try.ntmps29
  go_wp2
  go_ret2
  exact ⟨newPH w.heap.size y o, rfl, HRep.new w y o hy0 hy1 ho0 ho1, rfl, (((Ext.refl w).alloc _).alloc _).alloc _⟩
end Go.Proofs.Ytikigppfnhilhaa
