/- A heap that a law plays with. The arguments of the heap's laws, opened. What the claims about heaps share: layout, bulk, arguments opened. -/
import Derived.Test.YtikigppfnhilhaaGPD24
import Derived.Test.YtikigppfnhilhaaGPD25
import Derived.Test.YtikigppfnhilhaaGPD26
import Derived.Test.YtikigppfnhilhaaRows
import Derived.ProofKit
import Derived.OpenShut
import Derived.JoinedCond
import Derived.Carry
/- A heap that a law plays with. -/
namespace Go.Proofs.Ytikigppfnhilhaa
open Go.RowKit Go.Instr
set_option linter.unusedVariables false
set_option linter.unusedSimpArgs false

/-- A heap that has been made since W0. -/
structure Heap (W0 w : World) (hp : Nat) (y o : Int) (x : PH) : Prop where
  rep : HRep w W0.heap.size x
  hp_ : x.hp = hp
  inv : LInv x.log
  Y : x.Y = y
  O : x.O = o
  ext : Ext W0 w
theorem Heap.frame {W0 w w' : World} {hp : Nat} {y o : Int} {x : PH} (h : Heap W0 w hp y o x) (hk : Keeps x.fp w w') : Ext W0 w' :=
  h.ext.trans' hk fun k hk2 hf => by have := h.rep.base_ k hf; omega
theorem Heap.later {W0 w w' : World} {hp : Nat} {y o : Int} {x : PH} (h : Heap W0 w hp y o x) (hx : Ext w w') : Heap W0 w' hp y o x :=
  ⟨h.rep.ext hx, h.hp_, h.inv, h.Y, h.O, h.ext.trans hx⟩
theorem Heap.step {W0 w w' : World} {hp : Nat} {y o : Int} {x : PH} (h : Heap W0 w hp y o x) {l' : LH} (hs : Step w W0.heap.size x l' w') (hi : LInv l') (hY : l'.Y = x.Y) (hO : l'.O = x.O) : ∃ x', Heap W0 w' hp y o x' := by
  obtain ⟨x', h1, h2, h3, h4, h5⟩ := hs
  refine ⟨x', h1, h2.trans h.hp_, by rw [h3]; exact hi, ?_, ?_, h.frame h4⟩
  · have : x'.log.Y = l'.Y := by rw [h3]
    exact (this.trans hY).trans h.Y
  · have : x'.log.O = l'.O := by rw [h3]
    exact (this.trans hO).trans h.O
theorem alloc_YO (h : LH) (kind size : Int) : (h.alloc kind size).1.Y = h.Y ∧ (h.alloc kind size).1.O = h.O := by
  unfold LH.alloc; split
  · exact ⟨rfl, rfl⟩
  · split <;> split <;> exact ⟨rfl, rfl⟩
theorem minor_YO (h : LH) (roots : List Wd) : (h.minor roots).1.Y = h.Y ∧ (h.minor roots).1.O = h.O := by
  unfold LH.minor; split
  · exact ⟨rfl, rfl⟩
  · split <;> exact ⟨rfl, rfl⟩
theorem major_YO (h : LH) (roots : List Wd) : (h.major roots).1.Y = h.Y ∧ (h.major roots).1.O = h.O := by
  unfold LH.major; split <;> exact ⟨rfl, rfl⟩

theorem Heap.alloc {W0 w : World} {hp : Nat} {y o : Int} {x : PH} (h : Heap W0 w hp y o x) (kind size : Int) :
    Calls Try.prog 34 #[.pointer (some ⟨hp, 0, none⟩), .int .i64 kind, .int .i64 size] w fun e w' => e = .returned (.tuple #[.int .i64 (x.log.alloc kind size).2.1, .int .i64 (x.log.alloc kind size).2.2]) ∧ ∃ x', Heap W0 w' hp y o x' := by
  rw [← h.hp_]
  refine (Alloc_any h.rep kind size).mono ?_
  rintro e w' ⟨rfl, hs⟩
  exact ⟨rfl, by have := h.step hs (h.inv.alloc kind size) (alloc_YO _ _ _).1 (alloc_YO _ _ _).2; rw [h.hp_]; exact this⟩
theorem Heap.store {W0 w : World} {hp : Nat} {y o : Int} {x : PH} (h : Heap W0 w hp y o x) (k i : Int) (u : Wd) :
    Calls Try.prog 19 #[.pointer (some ⟨hp, 0, none⟩), .int .i64 k, .int .i64 i, u.val] w fun e w' => e = .returned (.int .i64 (x.storeE k i u)) ∧ Heap W0 w' hp y o (if x.storeE k i u = 0 then x.stored k i u else x) ∧ Keeps x.fp w w' := by
  rw [← h.hp_]
  refine (Store_any h.rep k i u).mono ?_
  rintro e w' ⟨rfl, hr, hk⟩
  refine ⟨rfl, ⟨hr, ?_, ?_, ?_, ?_, h.frame hk⟩, hk⟩
  · split
    · unfold PH.stored; split <;> rfl
    · rfl
  · split
    · rename_i he; exact h.inv.store h.rep.ok h.rep.ps k i u he
    · exact h.inv
  · split
    · unfold PH.stored; split <;> exact h.Y
    · exact h.Y
  · split
    · unfold PH.stored; split <;> exact h.O
    · exact h.O
theorem Heap.minor {W0 w : World} {hp : Nat} {y o : Int} {x : PH} (h : Heap W0 w hp y o x) {v : Value} {roots : List Wd} (hr : RdW w v roots) (hd : roots ≠ [] → ∀ k, v.ownBlock = some k → ¬ x.fp k) (hl : roots.length ≤ 1048576) :
    Calls Try.prog 35 #[.pointer (some ⟨hp, 0, none⟩), v] w fun e w' => ∃ v', e = .returned (.tuple #[v', .int .i64 (x.log.minor roots).2.2]) ∧ w'.ownsRow w.heap.size 33 6 v' (x.log.minor roots).2.1.length (flatL (x.log.minor roots).2.1) ∧ (∃ x', Heap W0 w' hp y o x' ∧ x'.log = (x.log.minor roots).1) ∧ Keeps x.fp w w' := by
  rw [← h.hp_]
  refine (Minor_any h.rep h.inv hr hd hl).mono ?_
  rintro e w' ⟨v', rfl, ho, hs0⟩
  have hs := hs0.step
  refine ⟨v', rfl, ho, ?_, hs.choose_spec.2.2.2.1⟩
  obtain ⟨x', h1, h2, h3, h4, h5⟩ := hs
  refine ⟨x', ⟨h1, h2, by rw [h3]; exact h.inv.minor h.rep.ok.lok roots, ?_, ?_, h.frame h4⟩, h3⟩
  · have : x'.log.Y = x.log.Y := by rw [h3, (minor_YO _ _).1]
    exact this.trans h.Y
  · have : x'.log.O = x.log.O := by rw [h3, (minor_YO _ _).2]
    exact this.trans h.O
theorem Heap.major {W0 w : World} {hp : Nat} {y o : Int} {x : PH} (h : Heap W0 w hp y o x) {v : Value} {roots : List Wd} (hr : RdW w v roots) (hd : roots ≠ [] → ∀ k, v.ownBlock = some k → ¬ x.fp k) (hl : roots.length ≤ 1048576) :
    Calls Try.prog 36 #[.pointer (some ⟨hp, 0, none⟩), v] w fun e w' => ∃ v', e = .returned (.tuple #[v', .int .i64 (x.log.major roots).2.2]) ∧ w'.ownsRow w.heap.size 33 6 v' (x.log.major roots).2.1.length (flatL (x.log.major roots).2.1) ∧ (∃ x', Heap W0 w' hp y o x' ∧ x'.log = (x.log.major roots).1) ∧ Keeps x.fp w w' := by
  rw [← h.hp_]
  refine (Major_any h.rep h.inv hr hd hl).mono ?_
  rintro e w' ⟨v', rfl, ho, hs0⟩
  have hs := hs0.step
  refine ⟨v', rfl, ho, ?_, hs.choose_spec.2.2.2.1⟩
  obtain ⟨x', h1, h2, h3, h4, h5⟩ := hs
  refine ⟨x', ⟨h1, h2, by rw [h3]; exact h.inv.major h.rep.ok.lok roots, ?_, ?_, h.frame h4⟩, h3⟩
  · have : x'.log.Y = x.log.Y := by rw [h3, (major_YO _ _).1]
    exact this.trans h.Y
  · have : x'.log.O = x.log.O := by rw [h3, (major_YO _ _).2]
    exact this.trans h.O

theorem Heap.minorC {W0 w : World} {hp : Nat} {y o : Int} {x : PH} (h : Heap W0 w hp y o x) {v : Value} {roots : List Wd} (hr : RdW w v roots) (hd : roots ≠ [] → ∀ k, v.ownBlock = some k → ¬ x.fp k) (hl : roots.length ≤ 1048576) :
    Calls Try.prog 35 #[.pointer (some ⟨hp, 0, none⟩), v] w fun e w' => ∃ v', e = .returned (.tuple #[v', .int .i64 (x.log.minor roots).2.2]) ∧ w'.ownsRow w.heap.size 33 6 v' (x.log.minor roots).2.1.length (flatL (x.log.minor roots).2.1) ∧ (∃ x', Heap W0 w' hp y o x' ∧ x'.log = (x.log.minor roots).1 ∧ ∀ k ∈ x'.all.map PB.arr, k ∈ x.all.map PB.arr) ∧ Keeps x.fp w w' := by
  rw [← h.hp_]
  refine (Minor_any h.rep h.inv hr hd hl).mono ?_
  rintro e w' ⟨v', rfl, ho, hs0⟩
  have hs := hs0.step
  refine ⟨v', rfl, ho, ?_, hs.choose_spec.2.2.2.1⟩
  obtain ⟨x', h1, h2, h3, h4, h5, h6⟩ := hs0
  refine ⟨x', ⟨h1, h2, by rw [h3]; exact h.inv.minor h.rep.ok.lok roots, ?_, ?_, h.frame h4⟩, h3, h6⟩
  · have : x'.log.Y = x.log.Y := by rw [h3, (minor_YO _ _).1]
    exact this.trans h.Y
  · have : x'.log.O = x.log.O := by rw [h3, (minor_YO _ _).2]
    exact this.trans h.O
theorem Heap.majorC {W0 w : World} {hp : Nat} {y o : Int} {x : PH} (h : Heap W0 w hp y o x) {v : Value} {roots : List Wd} (hr : RdW w v roots) (hd : roots ≠ [] → ∀ k, v.ownBlock = some k → ¬ x.fp k) (hl : roots.length ≤ 1048576) :
    Calls Try.prog 36 #[.pointer (some ⟨hp, 0, none⟩), v] w fun e w' => ∃ v', e = .returned (.tuple #[v', .int .i64 (x.log.major roots).2.2]) ∧ w'.ownsRow w.heap.size 33 6 v' (x.log.major roots).2.1.length (flatL (x.log.major roots).2.1) ∧ (∃ x', Heap W0 w' hp y o x' ∧ x'.log = (x.log.major roots).1 ∧ ∀ k ∈ x'.all.map PB.arr, k ∈ x.all.map PB.arr) ∧ Keeps x.fp w w' := by
  rw [← h.hp_]
  refine (Major_any h.rep h.inv hr hd hl).mono ?_
  rintro e w' ⟨v', rfl, ho, hs0⟩
  have hs := hs0.step
  refine ⟨v', rfl, ho, ?_, hs.choose_spec.2.2.2.1⟩
  obtain ⟨x', h1, h2, h3, h4, h5, h6⟩ := hs0
  refine ⟨x', ⟨h1, h2, by rw [h3]; exact h.inv.major h.rep.ok.lok roots, ?_, ?_, h.frame h4⟩, h3, h6⟩
  · have : x'.log.Y = x.log.Y := by rw [h3, (major_YO _ _).1]
    exact this.trans h.Y
  · have : x'.log.O = x.log.O := by rw [h3, (major_YO _ _).2]
    exact this.trans h.O

theorem Heap.blocks {W0 w : World} {hp : Nat} {y o : Int} {x : PH} (h : Heap W0 w hp y o x) :
    Calls Try.prog 12 #[.pointer (some ⟨hp, 0, none⟩)] w fun e w' => ∃ a c vs, e = .returned (.slice a x.log.all.length c) ∧ OwnBs w' w.heap.size (.slice a x.log.all.length c) x.log.all vs ∧ Ext w w' := by
  rw [← h.hp_]
  refine (Blocks_any h.rep).mono ?_
  rintro e w' ⟨v, vs, rfl, ho, hx⟩
  rw [← log_all] at ho
  obtain ⟨a, c, rfl⟩ := own_slice ho.row
  exact ⟨a, c, vs, rfl, ho, hx⟩
theorem Heap.all_len {W0 w : World} {hp : Nat} {y o : Int} {x : PH} (h : Heap W0 w hp y o x) : x.log.all.length ≤ 1000000 := by
  have := h.rep.ok.all_len; rw [log_all, List.length_map]; omega
theorem Heap.keep1 {W0 w w' : World} {hp : Nat} {y o : Int} {x : PH} (h : Heap W0 w hp y o x) {b : Nat} (hk : Keeps (· = b) w w') (hb : W0.heap.size ≤ b) (hn : ¬ x.fp b) : Heap W0 w' hp y o x :=
  ⟨h.rep.kept hk fun k hf e => hn (e ▸ hf), h.hp_, h.inv, h.Y, h.O, h.ext.trans' hk fun k hk2 e => by omega⟩
theorem RdW.lt {w : World} {v : Value} {ws : List Wd} (h : RdW w v ws) (hn : ws ≠ []) {k : Nat} (hk : v.ownBlock = some k) : k < w.heap.size := by
  obtain ⟨a, c, rfl, h1, h2⟩ := h
  cases a with
  | none => exact (hn (h1 rfl)).elim
  | some ad =>
    have e : ad.block = k := by simpa [Value.ownBlock] using hk
    cases ws with
    | nil => exact (hn rfl).elim
    | cons u ws =>
      have := World.block_lt_of_cell? w _ (h2 ad rfl 0 (.int .i64 u.tag) (by simp [flatL, Wd.cells]))
      rw [Addr.add_zero'] at this; omega

theorem fixedA_len {bs : List Bk} {x : Ac} {n : Nat} (h : x.roots.length ≤ n) : (fixedA bs x).roots.length ≤ n := by
  unfold fixedA; split
  · simpa using h
  · exact h
/-- fixed, near or not. -/
theorem fixed_any {w : World} {v : Value} {bs : List Bk} (h : RdB w v bs) (hl : bs.length ≤ 1000000) (x : Ac) (ra : Option Addr) (rc : Nat) (hr : RdW w (.slice ra x.roots.length rc) x.roots) (hrl : x.roots.length ≤ 1048576) :
    Calls Try.prog 13 #[v, .agg (x.cells (.slice ra x.roots.length rc)).toArray] w fun e w' => ∃ ra' rc', e = .returned (.agg ((fixedA bs x).cells (.slice ra' (fixedA bs x).roots.length rc')).toArray) ∧ RdW w' (.slice ra' (fixedA bs x).roots.length rc') (fixedA bs x).roots ∧
      ((ra' = ra ∧ (fixedA bs x).roots = x.roots) ∨ ∀ ad, ra' = some ad → w.heap.size ≤ ad.block) ∧ Ext w w' := by
  cases hn : x.near with
  | false =>
    have hf : fixedA bs x = x := by unfold fixedA; rw [if_neg (by simp [hn])]
    refine (fixed_far v bs x ra x.roots.length rc hn).mono ?_
    rintro e w' ⟨rfl, hx⟩
    exact ⟨ra, rc, by rw [hf], by rw [hf]; exact hr.ext hx, .inl ⟨rfl, by rw [hf]⟩, hx⟩
  | true =>
    refine (fixed_near h hl x ra x.roots.length rc hr hrl hn).mono ?_
    rintro e w' ⟨rv', rfl, ho, hx⟩
    obtain ⟨a, c, rfl⟩ := own_slice ho
    exact ⟨a, c, rfl, rdW_of_own ho, .inr fun ad e => (by subst e; exact (ho.lt ad.block rfl).1), hx⟩

/-- A slice value that reads as a list of acts. -/
def RdA (w : World) (v : Value) (l : List Ac) : Prop :=
  ∃ a c, v = .slice a l.length c ∧ (a = none → l = []) ∧ ∀ ad, a = some ad → ∀ (i : Nat) (x : Ac), l[i]? = some x → ∃ ra rc, (∀ j u, (x.cells (.slice ra x.roots.length rc))[j]? = some u → w.cell? ((ad.add (i * 11)).add j) = some u) ∧ RdW w (.slice ra x.roots.length rc) x.roots
theorem RdA.ext {w w' : World} {v : Value} {l : List Ac} (h : RdA w v l) (hx : Ext w w') : RdA w' v l := by
  obtain ⟨a, c, rfl, h1, h2⟩ := h
  refine ⟨a, c, rfl, h1, fun ad had i x hi => ?_⟩
  obtain ⟨ra, rc, h3, h4⟩ := h2 ad had i x hi
  exact ⟨ra, rc, fun j u hu => hx.cell (h3 j u hu), h4.ext hx⟩
end Go.Proofs.Ytikigppfnhilhaa
/- The arguments of the heap's laws, opened. -/
namespace Go.Proofs.Ytikigppfnhilhaa
open Go.RowKit Go.Instr Go.ChangeShapes Go.WideShapes Go.ChangeAt
set_option linter.unusedVariables false
set_option linter.unusedSimpArgs false

section
variable {H : Type} {enc : TypeId × Value → H} {w : World} {spare : Nat → Bool} {held : Bool}

theorem bulk_part {d : DataW H} {l : List (DataW H)} (h : d ∈ l) : Rows.uptoBulk d ≤ Rows.uptoBulkAll l := by
  induction l with
  | nil => cases h
  | cons x r ih =>
    simp only [Rows.uptoBulkAll]
    cases List.mem_cons.1 h with
    | inl e => subst e; omega
    | inr e => have := ih e; omega
theorem bulk_one (d : DataW H) : 1 ≤ Rows.uptoBulk d := by
  cases d with
  | lit l => cases l <;> simp [Rows.uptoBulk]
  | nil => simp [Rows.uptoBulk]
  | ptr d => simp [Rows.uptoBulk]
  | slice elems spare => simp [Rows.uptoBulk]
  | agg parts => simp [Rows.uptoBulk]
  | iface t d => simp [Rows.uptoBulk]
  | map entries => simp [Rows.uptoBulk]
  | held h => simp [Rows.uptoBulk]
theorem bulk_len (l : List (DataW H)) : l.length ≤ Rows.uptoBulkAll l := by
  induction l with
  | nil => simp [Rows.uptoBulkAll]
  | cons x r ih => have := bulk_one x; simp only [Rows.uptoBulkAll, List.length_cons]; omega

theorem cells_six : Try.prog.cellsOf 33 = 6 := by kernel_rfl
theorem cells_real : Try.prog.cellsOf 31 = 2 := by kernel_rfl
theorem cells_act : Try.prog.cellsOf 35 = 11 := by kernel_rfl
theorem cells_int : Try.prog.cellsOf 3 = 1 := by kernel_rfl
theorem cells_str : Try.prog.cellsOf 9 = 1 := by kernel_rfl
theorem cells_bool : Try.prog.cellsOf 4 = 1 := by kernel_rfl
theorem cells_words : Try.prog.cellsOf 23 = 1 := by kernel_rfl

theorem list_six {α : Type} {l : List α} (h : l.length = 6) : ∃ a b c d e f, l = [a, b, c, d, e, f] := by
  match l, h with
  | [a, b, c, d, e, f], _ => exact ⟨a, b, c, d, e, f, rfl⟩
theorem list_eleven {α : Type} {l : List α} (h : l.length = 11) : ∃ a b c d e f g i j k m, l = [a, b, c, d, e, f, g, i, j, k, m] := by
  match l, h with
  | [a, b, c, d, e, f, g, i, j, k, m], _ => exact ⟨a, b, c, d, e, f, g, i, j, k, m, rfl⟩

/-- A word. -/
theorem open_word {fuel : Nat} {cs : List Value} {x : DataW H × List MemPlace} (h : DataW.trod enc Try.prog w 0 spare held fuel 33 cs = some x) : ∃ u : Wd, cs = u.cells := by
  obtain ⟨xs, n, _, _, hl, hlen, hf⟩ := DataW.trod_struct Try.underlying33 h
  rw [cells_six] at hl
  obtain ⟨a, b, c, d, e, f, rfl⟩ := list_six hl
  have g := fun i (hi : i < xs.length) => List.getElem?_eq_getElem hi
  have f0 : DataW.trod enc Try.prog w 0 spare held n 3 (([a, b, c, d, e, f].drop 0).take (Try.prog.cellsOf 3)) = xs[0]? := hf 0 _ rfl
  have f1 : DataW.trod enc Try.prog w 0 spare held n 3 (([a, b, c, d, e, f].drop 1).take (Try.prog.cellsOf 3)) = xs[1]? := hf 1 _ rfl
  have f2 : DataW.trod enc Try.prog w 0 spare held n 3 (([a, b, c, d, e, f].drop 2).take (Try.prog.cellsOf 3)) = xs[2]? := hf 2 _ rfl
  have f3 : DataW.trod enc Try.prog w 0 spare held n 9 (([a, b, c, d, e, f].drop 3).take (Try.prog.cellsOf 9)) = xs[3]? := hf 3 _ rfl
  have f4 : DataW.trod enc Try.prog w 0 spare held n 31 (([a, b, c, d, e, f].drop 4).take (Try.prog.cellsOf 31)) = xs[4]? := hf 4 _ rfl
  have hx5 : xs.length = 5 := by rw [hlen]; rfl
  rw [g 0 (by omega)] at f0; rw [g 1 (by omega)] at f1; rw [g 2 (by omega)] at f2; rw [g 3 (by omega)] at f3; rw [g 4 (by omega)] at f4
  simp only [cells_int] at f0 f1 f2
  simp only [cells_str] at f3
  simp only [cells_real] at f4
  obtain ⟨t, ht, -⟩ := DataW.trod_int Try.underlying3 f0
  obtain ⟨p, hp, -⟩ := DataW.trod_int Try.underlying3 f1
  obtain ⟨q, hq, -⟩ := DataW.trod_int Try.underlying3 f2
  obtain ⟨s, hs, -⟩ := DataW.trod_string Try.underlying9 f3
  obtain ⟨ys, m, _, _, hl2, hlen2, hf2⟩ := DataW.trod_struct Try.underlying31 f4
  have g2 := fun i (hi : i < ys.length) => List.getElem?_eq_getElem hi
  have hy2 : ys.length = 2 := by rw [hlen2]; rfl
  have r0 : DataW.trod enc Try.prog w 0 spare held m 3 (((([a, b, c, d, e, f].drop 4).take 2).drop 0).take (Try.prog.cellsOf 3)) = ys[0]? := hf2 0 _ rfl
  have r1 : DataW.trod enc Try.prog w 0 spare held m 3 (((([a, b, c, d, e, f].drop 4).take 2).drop 1).take (Try.prog.cellsOf 3)) = ys[1]? := hf2 1 _ rfl
  rw [g2 0 (by omega)] at r0; rw [g2 1 (by omega)] at r1
  simp only [cells_int] at r0 r1
  obtain ⟨mn, hm, -⟩ := DataW.trod_int Try.underlying3 r0
  obtain ⟨ex, he, -⟩ := DataW.trod_int Try.underlying3 r1
  simp at ht hp hq hs hm he
  exact ⟨⟨t, p, q, s, mn, ex⟩, by simp [Wd.cells, ht, hp, hq, hs, hm, he]⟩

theorem exists_list {α : Type} (n : Nat) (P : Nat → α → Prop) (h : ∀ i, i < n → ∃ a, P i a) : ∃ l : List α, l.length = n ∧ ∀ i a, l[i]? = some a → P i a := by
  induction n with
  | zero => exact ⟨[], rfl, fun i a h => by simp at h⟩
  | succ n ih =>
    obtain ⟨l, hl, hp⟩ := ih fun i hi => h i (by omega)
    obtain ⟨a, ha⟩ := h n (by omega)
    refine ⟨l ++ [a], by simp [hl], fun i b hb => ?_⟩
    by_cases hi : i < l.length
    · rw [List.getElem?_append_left hi] at hb; exact hp i b hb
    · rw [List.getElem?_append_right (by omega)] at hb
      have : i = n := by
        have := (List.getElem?_eq_some_iff.1 hb).1; simp at this; omega
      subst this
      rw [hl] at hb; simp at hb; subst hb; exact ha
theorem cells_get {base : Nat} {a : Addr} {n : Nat} {cs : List Value} (h : w.cells? base a n = some cs) {j : Nat} {u : Value} (hu : cs[j]? = some u) (hj : j < n) : w.cell? (a.add j) = some u := by
  rw [(World.cells?_some h).2.2 j hj]; exact hu

/-- Words in a slice. -/
theorem open_words {fuel : Nat} {cs : List Value} {x : DataW H × List MemPlace} (h : DataW.trod enc Try.prog w 0 spare held fuel 23 cs = some x) :
    ∃ a c ws, cs = [.slice a (List.length ws) c] ∧ RdW w (.slice a ws.length c) ws ∧ ws.length ≤ Rows.uptoBulk x.1 := by
  rcases DataW.trod_slice Try.underlying23 h with ⟨rfl, rfl⟩ | ⟨a, len, cap, elems, rest, n, _, rfl, rfl, hb, hlc, hm, hlen, hel, hsp, hns⟩
  · exact ⟨none, 0, [], rfl, ⟨none, 0, rfl, fun _ => rfl, fun ad had => by cases had⟩, by simp⟩
  · rw [cells_six] at hel
    obtain ⟨ws, hwl, hws⟩ := exists_list len (fun i (u : Wd) => w.cells? 0 (a.add (i * 6)) 6 = some u.cells) fun i hi => by
      have h1 := hel i hi
      rw [List.getElem?_eq_getElem (by omega)] at h1
      obtain ⟨cs, h2, h3⟩ := Option.bind_eq_some_iff.1 h1
      obtain ⟨u, rfl⟩ := open_word h3
      exact ⟨u, h2⟩
    refine ⟨some a, cap, ws, by rw [hwl], ⟨some a, cap, rfl, fun e => (by cases e), fun ad had j v hv => ?_⟩, ?_⟩
    · injection had with had; subst had
      have hj : j < ws.length * 6 := by have := (List.getElem?_eq_some_iff.1 hv).1; rw [flatL_length] at this; exact this
      have hji : j / 6 < ws.length := by omega
      have hu : ws[j / 6]? = some ws[j / 6] := List.getElem?_eq_getElem hji
      have hg := flatL_get ws (j / 6) _ hu (j % 6) (by omega)
      rw [show j / 6 * 6 + j % 6 = j from by omega] at hg
      have h3 := cells_get (hws _ _ hu) (j := j % 6) (u := v) (by rw [← hg]; exact hv) (by omega)
      rw [Addr.add_add, show j / 6 * 6 + j % 6 = j from by omega] at h3
      exact h3
    · simp only [Rows.uptoBulk]
      have := bulk_len (elems.map (·.1))
      rw [List.length_map] at this
      omega
/-- An act. -/
theorem open_act {fuel : Nat} {cs : List Value} {x : DataW H × List MemPlace} (h : DataW.trod enc Try.prog w 0 spare held fuel 35 cs = some x) :
    ∃ (y : Ac) (ra : Option Addr) (rc : Nat), cs = y.cells (.slice ra y.roots.length rc) ∧ RdW w (.slice ra y.roots.length rc) y.roots ∧ y.roots.length ≤ Rows.uptoBulk x.1 := by
  obtain ⟨xs, n, _, hx, hl, hlen, hf⟩ := DataW.trod_struct Try.underlying35 h
  rw [cells_act] at hl
  obtain ⟨a, b, c, d, e, f, g, i, j, k, m, rfl⟩ := list_eleven hl
  have gg := fun i (hi : i < xs.length) => List.getElem?_eq_getElem hi
  have hx6 : xs.length = 6 := by rw [hlen]; rfl
  have f0 : DataW.trod enc Try.prog w 0 spare held n 3 (([a, b, c, d, e, f, g, i, j, k, m].drop 0).take (Try.prog.cellsOf 3)) = xs[0]? := hf 0 _ rfl
  have f1 : DataW.trod enc Try.prog w 0 spare held n 3 (([a, b, c, d, e, f, g, i, j, k, m].drop 1).take (Try.prog.cellsOf 3)) = xs[1]? := hf 1 _ rfl
  have f2 : DataW.trod enc Try.prog w 0 spare held n 3 (([a, b, c, d, e, f, g, i, j, k, m].drop 2).take (Try.prog.cellsOf 3)) = xs[2]? := hf 2 _ rfl
  have f3 : DataW.trod enc Try.prog w 0 spare held n 33 (([a, b, c, d, e, f, g, i, j, k, m].drop 3).take (Try.prog.cellsOf 33)) = xs[3]? := hf 3 _ rfl
  have f4 : DataW.trod enc Try.prog w 0 spare held n 23 (([a, b, c, d, e, f, g, i, j, k, m].drop 9).take (Try.prog.cellsOf 23)) = xs[4]? := hf 4 _ rfl
  have f5 : DataW.trod enc Try.prog w 0 spare held n 4 (([a, b, c, d, e, f, g, i, j, k, m].drop 10).take (Try.prog.cellsOf 4)) = xs[5]? := hf 5 _ rfl
  rw [gg 0 (by omega)] at f0; rw [gg 1 (by omega)] at f1; rw [gg 2 (by omega)] at f2; rw [gg 3 (by omega)] at f3; rw [gg 4 (by omega)] at f4; rw [gg 5 (by omega)] at f5
  simp only [cells_int] at f0 f1 f2
  simp only [cells_six] at f3
  simp only [cells_words] at f4
  simp only [cells_bool] at f5
  obtain ⟨t, ht, -⟩ := DataW.trod_int Try.underlying3 f0
  obtain ⟨p, hp, -⟩ := DataW.trod_int Try.underlying3 f1
  obtain ⟨q, hq, -⟩ := DataW.trod_int Try.underlying3 f2
  obtain ⟨u, hu⟩ := open_word f3
  obtain ⟨ra, rc, ws, hr, hrd, hrb⟩ := open_words f4
  obtain ⟨nb, hn, -⟩ := DataW.trod_bool Try.underlying4 f5
  simp [Wd.cells] at ht hp hq hu hr hn
  refine ⟨⟨t, p, q, u, ws, nb⟩, ra, rc, by simp [Ac.cells, ht, hp, hq, hu, hr, hn], hrd, ?_⟩
  rw [hx]
  simp only [Rows.uptoBulk]
  have h1 : (xs[4]'(by omega)).1 ∈ xs.map (·.1) := List.mem_map_of_mem (List.getElem_mem (by omega))
  have := bulk_part h1
  show ws.length ≤ _
  omega
/-- Acts in a slice. -/
theorem open_acts {fuel : Nat} {cs : List Value} {x : DataW H × List MemPlace} (h : DataW.trod enc Try.prog w 0 spare held fuel 22 cs = some x) :
    ∃ a c l, cs = [.slice a (List.length l) c] ∧ RdA w (.slice a l.length c) l ∧ l.length ≤ Rows.uptoBulk x.1 ∧ ∀ y ∈ l, y.roots.length ≤ Rows.uptoBulk x.1 := by
  rcases DataW.trod_slice Try.underlying22 h with ⟨rfl, rfl⟩ | ⟨a, len, cap, elems, rest, n, _, rfl, rfl, hb, hlc, hm, hlen, hel, hsp, hns⟩
  · exact ⟨none, 0, [], rfl, ⟨none, 0, rfl, fun _ => rfl, fun ad had => by cases had⟩, by simp, fun y hy => by cases hy⟩
  · rw [cells_act] at hel
    obtain ⟨l, hll, hls⟩ := exists_list len (fun i (y : Ac) => ∃ ra rc, w.cells? 0 (a.add (i * 11)) 11 = some (y.cells (.slice ra y.roots.length rc)) ∧ RdW w (.slice ra y.roots.length rc) y.roots ∧ y.roots.length ≤ Rows.uptoBulkAll (elems.map (·.1))) fun i hi => by
      have h1 := hel i hi
      have hi2 : i < elems.length := by omega
      rw [List.getElem?_eq_getElem hi2] at h1
      obtain ⟨cs, h2, h3⟩ := Option.bind_eq_some_iff.1 h1
      obtain ⟨y, ra, rc, rfl, h4, h5⟩ := open_act h3
      have h6 : (elems[i]).1 ∈ elems.map (·.1) := List.mem_map_of_mem (List.getElem_mem hi2)
      have := bulk_part h6
      exact ⟨y, ra, rc, h2, h4, by omega⟩
    refine ⟨some a, cap, l, by rw [hll], ⟨some a, cap, rfl, fun e => (by cases e), fun ad had i y hy => ?_⟩, ?_, ?_⟩
    · injection had with had; subst had
      obtain ⟨ra, rc, h1, h2, -⟩ := hls i y hy
      refine ⟨ra, rc, fun j u hu => ?_, h2⟩
      have hj : j < 11 := by have := (List.getElem?_eq_some_iff.1 hu).1; simpa [Ac.cells] using this
      exact cells_get h1 hu hj
    · simp only [Rows.uptoBulk]
      have := bulk_len (elems.map (·.1))
      rw [List.length_map] at this
      omega
    · intro y hy
      obtain ⟨i, hi, rfl⟩ := List.getElem_of_mem hy
      obtain ⟨ra, rc, -, -, h3⟩ := hls i _ (List.getElem?_eq_getElem hi)
      simp only [Rows.uptoBulk]; omega
end
end Go.Proofs.Ytikigppfnhilhaa
/- What the claims about heaps share: layout, bulk, arguments opened. -/
namespace Go.Proofs.Ytikigppfnhilhaa
open Go.RowKit Go.Instr Go.ChangeShapes Go.WideShapes Go.ChangeAt
set_option linter.unusedVariables false
set_option linter.unusedSimpArgs false

theorem laidOut' : laidOutB Try.prog = true := by kernel_rfl
theorem own' : ownKnob Try.prog.godebug = none := by kernel_rfl
theorem Below.trodAll' {H : Type} {enc : TypeId × Value → H} {P : Program} (hl : laidOutB P = true) {W W' : World} (hb : Below W.heap.size W W') :
    ∀ {ts : List TypeId} {vs : List Value} {ds : List (DataW H)} {ps : List MemPlace}, (∀ t ∈ ts, P.readableRec t = true ∧ t < P.types.size) → DataW.TrodAll enc P W 0 (fun _ => true) true ts vs ds ps → (∀ x ∈ ps, x.block < W.heap.size) →
      DataW.TrodAll enc P W' 0 (fun b => decide (b < W.heap.size)) true ts vs ds ps
  | [], [], [], ps, _, h, _ => h
  | t :: ts, v :: vs, d :: ds, ps, hr, h, hlt => by
    obtain ⟨p, q, h1, h2, rfl⟩ := h
    exact ⟨p, q, Below.trod hl (hr t (by simp)).1 (hr t (by simp)).2 h1 hb (fun x hx => hlt x (List.mem_append_left _ hx)), Below.trodAll' hl hb (fun t ht => hr t (by simp [ht])) h2 (fun x hx => hlt x (List.mem_append_right _ hx)), rfl⟩
  | [], _ :: _, _, _, _, h, _ => h.elim
  | [], [], _ :: _, _, _, h, _ => h.elim
  | _ :: _, [], _, _, _, h, _ => h.elim
  | _ :: _, _ :: _, [], _, _, h, _ => h.elim
theorem bulk_of {H : Type} {l : List (DataW H)} (hk : Rows.uptoSmall H l = true) : Rows.uptoBulkAll l ≤ 1048576 := of_decide_eq_true hk
theorem cells_one {v : Value} (hv : ∀ cs, v ≠ .agg cs) : v.cells = #[v] := by
  cases v <;> first | rfl | exact (hv _ rfl).elim
section
variable {H : Type} {enc : TypeId × Value → H} {w : World}
set_option maxRecDepth 100000 in
theorem open_acts_arg {b0 : Nat} {v : Value} {d : DataW H} {ps : List MemPlace} (hval : Value.okWide Try.prog w .any b0 22 v) (hd : DataW.Trod enc Try.prog w 0 (fun _ => true) true 22 v d ps) :
    ∃ l, RdA w v l ∧ l.length ≤ Rows.uptoBulk d ∧ ∀ y ∈ l, y.roots.length ≤ Rows.uptoBulk d := by
  obtain ⟨fuel, h⟩ := hd
  obtain ⟨a, c, l, hc, h1, h2, h3⟩ := open_acts h
  refine ⟨l, ?_, h2, h3⟩
  have hv : v = .slice a l.length c := by
    rw [cells_one fun cs e => by subst e; simp [Value.okWide, Try.underlying22, Cell.okWide, Cell.ok] at hval] at hc
    simpa using hc
  rw [hv]; exact h1
set_option maxRecDepth 100000 in
theorem open_words_arg {b0 : Nat} {v : Value} {d : DataW H} {ps : List MemPlace} (hval : Value.okWide Try.prog w .any b0 23 v) (hd : DataW.Trod enc Try.prog w 0 (fun _ => true) true 23 v d ps) :
    ∃ ws, RdW w v ws ∧ ws.length ≤ Rows.uptoBulk d := by
  obtain ⟨fuel, h⟩ := hd
  obtain ⟨a, c, l, hc, h1, h2⟩ := open_words h
  refine ⟨l, ?_, h2⟩
  have hv : v = .slice a l.length c := by
    rw [cells_one fun cs e => by subst e; simp [Value.okWide, Try.underlying23, Cell.okWide, Cell.ok] at hval] at hc
    simpa using hc
  rw [hv]; exact h1
set_option maxRecDepth 100000 in
theorem open_word_arg {b0 : Nat} {v : Value} {d : DataW H} {ps : List MemPlace} (hval : Value.okWide Try.prog w .any b0 33 v) (hd : DataW.Trod enc Try.prog w 0 (fun _ => true) true 33 v d ps) :
    ∃ u : Wd, v = u.val := by
  obtain ⟨fuel, h⟩ := hd
  obtain ⟨u, hu⟩ := open_word h
  refine ⟨u, ?_⟩
  have hv : ∃ cs, v = .agg cs := by
    simp only [Value.okWide, Try.underlying33] at hval
    obtain ⟨cs, e, _⟩ := hval
    exact ⟨cs, e⟩
  obtain ⟨cs, rfl⟩ := hv
  have h2 : cs.toList = u.cells := hu
  unfold Wd.val
  rw [← h2]
end

/-- What an upto row asks behind the call, where nothing was written. -/
theorem bulk_le {H : Type} {ds gs : List (DataW H)} (hb : Rows.uptoBulkAll (ds ++ gs) ≤ 1048576) {d : DataW H} (h : d ∈ ds) : Rows.uptoBulk d ≤ 1048576 := Nat.le_trans (bulk_part (List.mem_append_left _ h)) hb
end Go.Proofs.Ytikigppfnhilhaa
