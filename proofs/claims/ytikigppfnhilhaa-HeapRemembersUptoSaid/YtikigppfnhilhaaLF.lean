/- A heap that a law plays with. -/
import Derived.Test.YtikigppfnhilhaaLC
import Derived.Test.YtikigppfnhilhaaLD
import Derived.Test.YtikigppfnhilhaaLE
namespace Go.Proofs.Ytikigppfnhilhaa
open Go.RowKit Go.Instr
set_option linter.unusedVariables false
set_option linter.unusedSimpArgs false

/-- A heap that has been made since W0. -/
structure Heap (W0 w : World) (hp : Nat) (y o : Int) (x : PH) : Prop where
  rep : HRep w W0.heap.size x
  hp_ : x.hp = hp
  inv : LInv x.log
  Y : x.Y = y
  O : x.O = o
  ext : Ext W0 w
theorem Heap.frame {W0 w w' : World} {hp : Nat} {y o : Int} {x : PH} (h : Heap W0 w hp y o x) (hk : Keeps x.fp w w') : Ext W0 w' :=
  h.ext.trans' hk fun k hk2 hf => by have := h.rep.base_ k hf; omega
theorem Heap.later {W0 w w' : World} {hp : Nat} {y o : Int} {x : PH} (h : Heap W0 w hp y o x) (hx : Ext w w') : Heap W0 w' hp y o x :=
  ⟨h.rep.ext hx, h.hp_, h.inv, h.Y, h.O, h.ext.trans hx⟩
theorem Heap.step {W0 w w' : World} {hp : Nat} {y o : Int} {x : PH} (h : Heap W0 w hp y o x) {l' : LH} (hs : Step w W0.heap.size x l' w') (hi : LInv l') (hY : l'.Y = x.Y) (hO : l'.O = x.O) : ∃ x', Heap W0 w' hp y o x' := by
  obtain ⟨x', h1, h2, h3, h4, h5⟩ := hs
  refine ⟨x', h1, h2.trans h.hp_, by rw [h3]; exact hi, ?_, ?_, h.frame h4⟩
  · have : x'.log.Y = l'.Y := by rw [h3]
    exact (this.trans hY).trans h.Y
  · have : x'.log.O = l'.O := by rw [h3]
    exact (this.trans hO).trans h.O
theorem alloc_YO (h : LH) (kind size : Int) : (h.alloc kind size).1.Y = h.Y ∧ (h.alloc kind size).1.O = h.O := by
  unfold LH.alloc; split
  · exact ⟨rfl, rfl⟩
  · split <;> split <;> exact ⟨rfl, rfl⟩
theorem minor_YO (h : LH) (roots : List Wd) : (h.minor roots).1.Y = h.Y ∧ (h.minor roots).1.O = h.O := by
  unfold LH.minor; split
  · exact ⟨rfl, rfl⟩
  · split <;> exact ⟨rfl, rfl⟩
theorem major_YO (h : LH) (roots : List Wd) : (h.major roots).1.Y = h.Y ∧ (h.major roots).1.O = h.O := by
  unfold LH.major; split <;> exact ⟨rfl, rfl⟩

theorem Heap.alloc {W0 w : World} {hp : Nat} {y o : Int} {x : PH} (h : Heap W0 w hp y o x) (kind size : Int) :
    Calls Try.prog 34 #[.pointer (some ⟨hp, 0, none⟩), .int .i64 kind, .int .i64 size] w fun e w' => e = .returned (.tuple #[.int .i64 (x.log.alloc kind size).2.1, .int .i64 (x.log.alloc kind size).2.2]) ∧ ∃ x', Heap W0 w' hp y o x' := by
  rw [← h.hp_]
  refine (Alloc_any h.rep kind size).mono ?_
  rintro e w' ⟨rfl, hs⟩
  exact ⟨rfl, by have := h.step hs (h.inv.alloc kind size) (alloc_YO _ _ _).1 (alloc_YO _ _ _).2; rw [h.hp_]; exact this⟩
theorem Heap.store {W0 w : World} {hp : Nat} {y o : Int} {x : PH} (h : Heap W0 w hp y o x) (k i : Int) (u : Wd) :
    Calls Try.prog 19 #[.pointer (some ⟨hp, 0, none⟩), .int .i64 k, .int .i64 i, u.val] w fun e w' => e = .returned (.int .i64 (x.storeE k i u)) ∧ Heap W0 w' hp y o (if x.storeE k i u = 0 then x.stored k i u else x) ∧ Keeps x.fp w w' := by
  rw [← h.hp_]
  refine (Store_any h.rep k i u).mono ?_
  rintro e w' ⟨rfl, hr, hk⟩
  refine ⟨rfl, ⟨hr, ?_, ?_, ?_, ?_, h.frame hk⟩, hk⟩
  · split
    · unfold PH.stored; split <;> rfl
    · rfl
  · split
    · rename_i he; exact h.inv.store h.rep.ok h.rep.ps k i u he
    · exact h.inv
  · split
    · unfold PH.stored; split <;> exact h.Y
    · exact h.Y
  · split
    · unfold PH.stored; split <;> exact h.O
    · exact h.O
theorem Heap.minor {W0 w : World} {hp : Nat} {y o : Int} {x : PH} (h : Heap W0 w hp y o x) {v : Value} {roots : List Wd} (hr : RdW w v roots) (hd : roots ≠ [] → ∀ k, v.ownBlock = some k → ¬ x.fp k) (hl : roots.length ≤ 1048576) :
    Calls Try.prog 35 #[.pointer (some ⟨hp, 0, none⟩), v] w fun e w' => ∃ v', e = .returned (.tuple #[v', .int .i64 (x.log.minor roots).2.2]) ∧ w'.ownsRow w.heap.size 33 6 v' (x.log.minor roots).2.1.length (flatL (x.log.minor roots).2.1) ∧ (∃ x', Heap W0 w' hp y o x' ∧ x'.log = (x.log.minor roots).1) ∧ Keeps x.fp w w' := by
  rw [← h.hp_]
  refine (Minor_any h.rep h.inv hr hd hl).mono ?_
  rintro e w' ⟨v', rfl, ho, hs0⟩
  have hs := hs0.step
  refine ⟨v', rfl, ho, ?_, hs.choose_spec.2.2.2.1⟩
  obtain ⟨x', h1, h2, h3, h4, h5⟩ := hs
  refine ⟨x', ⟨h1, h2, by rw [h3]; exact h.inv.minor h.rep.ok.lok roots, ?_, ?_, h.frame h4⟩, h3⟩
  · have : x'.log.Y = x.log.Y := by rw [h3, (minor_YO _ _).1]
    exact this.trans h.Y
  · have : x'.log.O = x.log.O := by rw [h3, (minor_YO _ _).2]
    exact this.trans h.O
theorem Heap.major {W0 w : World} {hp : Nat} {y o : Int} {x : PH} (h : Heap W0 w hp y o x) {v : Value} {roots : List Wd} (hr : RdW w v roots) (hd : roots ≠ [] → ∀ k, v.ownBlock = some k → ¬ x.fp k) (hl : roots.length ≤ 1048576) :
    Calls Try.prog 36 #[.pointer (some ⟨hp, 0, none⟩), v] w fun e w' => ∃ v', e = .returned (.tuple #[v', .int .i64 (x.log.major roots).2.2]) ∧ w'.ownsRow w.heap.size 33 6 v' (x.log.major roots).2.1.length (flatL (x.log.major roots).2.1) ∧ (∃ x', Heap W0 w' hp y o x' ∧ x'.log = (x.log.major roots).1) ∧ Keeps x.fp w w' := by
  rw [← h.hp_]
  refine (Major_any h.rep h.inv hr hd hl).mono ?_
  rintro e w' ⟨v', rfl, ho, hs0⟩
  have hs := hs0.step
  refine ⟨v', rfl, ho, ?_, hs.choose_spec.2.2.2.1⟩
  obtain ⟨x', h1, h2, h3, h4, h5⟩ := hs
  refine ⟨x', ⟨h1, h2, by rw [h3]; exact h.inv.major h.rep.ok.lok roots, ?_, ?_, h.frame h4⟩, h3⟩
  · have : x'.log.Y = x.log.Y := by rw [h3, (major_YO _ _).1]
    exact this.trans h.Y
  · have : x'.log.O = x.log.O := by rw [h3, (major_YO _ _).2]
    exact this.trans h.O

theorem Heap.minorC {W0 w : World} {hp : Nat} {y o : Int} {x : PH} (h : Heap W0 w hp y o x) {v : Value} {roots : List Wd} (hr : RdW w v roots) (hd : roots ≠ [] → ∀ k, v.ownBlock = some k → ¬ x.fp k) (hl : roots.length ≤ 1048576) :
    Calls Try.prog 35 #[.pointer (some ⟨hp, 0, none⟩), v] w fun e w' => ∃ v', e = .returned (.tuple #[v', .int .i64 (x.log.minor roots).2.2]) ∧ w'.ownsRow w.heap.size 33 6 v' (x.log.minor roots).2.1.length (flatL (x.log.minor roots).2.1) ∧ (∃ x', Heap W0 w' hp y o x' ∧ x'.log = (x.log.minor roots).1 ∧ ∀ k ∈ x'.all.map PB.arr, k ∈ x.all.map PB.arr) ∧ Keeps x.fp w w' := by
  rw [← h.hp_]
  refine (Minor_any h.rep h.inv hr hd hl).mono ?_
  rintro e w' ⟨v', rfl, ho, hs0⟩
  have hs := hs0.step
  refine ⟨v', rfl, ho, ?_, hs.choose_spec.2.2.2.1⟩
  obtain ⟨x', h1, h2, h3, h4, h5, h6⟩ := hs0
  refine ⟨x', ⟨h1, h2, by rw [h3]; exact h.inv.minor h.rep.ok.lok roots, ?_, ?_, h.frame h4⟩, h3, h6⟩
  · have : x'.log.Y = x.log.Y := by rw [h3, (minor_YO _ _).1]
    exact this.trans h.Y
  · have : x'.log.O = x.log.O := by rw [h3, (minor_YO _ _).2]
    exact this.trans h.O
theorem Heap.majorC {W0 w : World} {hp : Nat} {y o : Int} {x : PH} (h : Heap W0 w hp y o x) {v : Value} {roots : List Wd} (hr : RdW w v roots) (hd : roots ≠ [] → ∀ k, v.ownBlock = some k → ¬ x.fp k) (hl : roots.length ≤ 1048576) :
    Calls Try.prog 36 #[.pointer (some ⟨hp, 0, none⟩), v] w fun e w' => ∃ v', e = .returned (.tuple #[v', .int .i64 (x.log.major roots).2.2]) ∧ w'.ownsRow w.heap.size 33 6 v' (x.log.major roots).2.1.length (flatL (x.log.major roots).2.1) ∧ (∃ x', Heap W0 w' hp y o x' ∧ x'.log = (x.log.major roots).1 ∧ ∀ k ∈ x'.all.map PB.arr, k ∈ x.all.map PB.arr) ∧ Keeps x.fp w w' := by
  rw [← h.hp_]
  refine (Major_any h.rep h.inv hr hd hl).mono ?_
  rintro e w' ⟨v', rfl, ho, hs0⟩
  have hs := hs0.step
  refine ⟨v', rfl, ho, ?_, hs.choose_spec.2.2.2.1⟩
  obtain ⟨x', h1, h2, h3, h4, h5, h6⟩ := hs0
  refine ⟨x', ⟨h1, h2, by rw [h3]; exact h.inv.major h.rep.ok.lok roots, ?_, ?_, h.frame h4⟩, h3, h6⟩
  · have : x'.log.Y = x.log.Y := by rw [h3, (major_YO _ _).1]
    exact this.trans h.Y
  · have : x'.log.O = x.log.O := by rw [h3, (major_YO _ _).2]
    exact this.trans h.O

theorem Heap.blocks {W0 w : World} {hp : Nat} {y o : Int} {x : PH} (h : Heap W0 w hp y o x) :
    Calls Try.prog 12 #[.pointer (some ⟨hp, 0, none⟩)] w fun e w' => ∃ a c vs, e = .returned (.slice a x.log.all.length c) ∧ OwnBs w' w.heap.size (.slice a x.log.all.length c) x.log.all vs ∧ Ext w w' := by
  rw [← h.hp_]
  refine (Blocks_any h.rep).mono ?_
  rintro e w' ⟨v, vs, rfl, ho, hx⟩
  rw [← log_all] at ho
  obtain ⟨a, c, rfl⟩ := own_slice ho.row
  exact ⟨a, c, vs, rfl, ho, hx⟩
theorem Heap.all_len {W0 w : World} {hp : Nat} {y o : Int} {x : PH} (h : Heap W0 w hp y o x) : x.log.all.length ≤ 1000000 := by
  have := h.rep.ok.all_len; rw [log_all, List.length_map]; omega
theorem Heap.keep1 {W0 w w' : World} {hp : Nat} {y o : Int} {x : PH} (h : Heap W0 w hp y o x) {b : Nat} (hk : Keeps (· = b) w w') (hb : W0.heap.size ≤ b) (hn : ¬ x.fp b) : Heap W0 w' hp y o x :=
  ⟨h.rep.kept hk fun k hf e => hn (e ▸ hf), h.hp_, h.inv, h.Y, h.O, h.ext.trans' hk fun k hk2 e => by omega⟩
theorem RdW.lt {w : World} {v : Value} {ws : List Wd} (h : RdW w v ws) (hn : ws ≠ []) {k : Nat} (hk : v.ownBlock = some k) : k < w.heap.size := by
  obtain ⟨a, c, rfl, h1, h2⟩ := h
  cases a with
  | none => exact (hn (h1 rfl)).elim
  | some ad =>
    have e : ad.block = k := by simpa [Value.ownBlock] using hk
    cases ws with
    | nil => exact (hn rfl).elim
    | cons u ws =>
      have := World.block_lt_of_cell? w _ (h2 ad rfl 0 (.int .i64 u.tag) (by simp [flatL, Wd.cells]))
      rw [Addr.add_zero'] at this; omega

theorem fixedA_len {bs : List Bk} {x : Ac} {n : Nat} (h : x.roots.length ≤ n) : (fixedA bs x).roots.length ≤ n := by
  unfold fixedA; split
  · simpa using h
  · exact h
/-- fixed, near or not. -/
theorem fixed_any {w : World} {v : Value} {bs : List Bk} (h : RdB w v bs) (hl : bs.length ≤ 1000000) (x : Ac) (ra : Option Addr) (rc : Nat) (hr : RdW w (.slice ra x.roots.length rc) x.roots) (hrl : x.roots.length ≤ 1048576) :
    Calls Try.prog 13 #[v, .agg (x.cells (.slice ra x.roots.length rc)).toArray] w fun e w' => ∃ ra' rc', e = .returned (.agg ((fixedA bs x).cells (.slice ra' (fixedA bs x).roots.length rc')).toArray) ∧ RdW w' (.slice ra' (fixedA bs x).roots.length rc') (fixedA bs x).roots ∧
      ((ra' = ra ∧ (fixedA bs x).roots = x.roots) ∨ ∀ ad, ra' = some ad → w.heap.size ≤ ad.block) ∧ Ext w w' := by
  cases hn : x.near with
  | false =>
    have hf : fixedA bs x = x := by unfold fixedA; rw [if_neg (by simp [hn])]
    refine (fixed_far v bs x ra x.roots.length rc hn).mono ?_
    rintro e w' ⟨rfl, hx⟩
    exact ⟨ra, rc, by rw [hf], by rw [hf]; exact hr.ext hx, .inl ⟨rfl, by rw [hf]⟩, hx⟩
  | true =>
    refine (fixed_near h hl x ra x.roots.length rc hr hrl hn).mono ?_
    rintro e w' ⟨rv', rfl, ho, hx⟩
    obtain ⟨a, c, rfl⟩ := own_slice ho
    exact ⟨a, c, rfl, rdW_of_own ho, .inr fun ad e => (by subst e; exact (ho.lt ad.block rfl).1), hx⟩

/-- A slice value that reads as a list of acts. -/
def RdA (w : World) (v : Value) (l : List Ac) : Prop :=
  ∃ a c, v = .slice a l.length c ∧ (a = none → l = []) ∧ ∀ ad, a = some ad → ∀ (i : Nat) (x : Ac), l[i]? = some x → ∃ ra rc, (∀ j u, (x.cells (.slice ra x.roots.length rc))[j]? = some u → w.cell? ((ad.add (i * 11)).add j) = some u) ∧ RdW w (.slice ra x.roots.length rc) x.roots
theorem RdA.ext {w w' : World} {v : Value} {l : List Ac} (h : RdA w v l) (hx : Ext w w') : RdA w' v l := by
  obtain ⟨a, c, rfl, h1, h2⟩ := h
  refine ⟨a, c, rfl, h1, fun ad had i x hi => ?_⟩
  obtain ⟨ra, rc, h3, h4⟩ := h2 ad had i x hi
  exact ⟨ra, rc, fun j u hu => hx.cell (h3 j u hu), h4.ext hx⟩
end Go.Proofs.Ytikigppfnhilhaa
