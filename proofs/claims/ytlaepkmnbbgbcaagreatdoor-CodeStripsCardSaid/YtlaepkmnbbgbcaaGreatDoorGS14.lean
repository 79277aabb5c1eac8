/- Reached, in plain Lean. What Strip leaves, in plain Lean: it is well-formed; without marks nothing turns. What was reached is reached behind Strip. Reached, walked. -/
import Derived.Test.YtlaepkmnbbgbcaaGreatDoorGS13
import Derived.Test.YtlaepkmnbbgbcaaGreatDoorGB16
import Derived.Test.YtlaepkmnbbgbcaaGreatDoorGB17
import Derived.OwnWalk
import Derived.WalkSmall
/- Reached, in plain Lean. -/
namespace Go.Proofs.YtlaepkmnbbgbcaaGreatDoor
open Go.RowKit Go.Instr Go.Sort
set_option linter.unusedVariables false
set_option linter.unusedSimpArgs false

/-- A place that is reached. -/
inductive Rch (c : Co) : Nat → Prop
  | entry {i : Nat} : (i : Int) ∈ entries c → Rch c i
  | step {j i : Nat} : Rch c j → (i : Int) ∈ nextL c j → Rch c i
theorem mem_uniq {l : List Int} {n : Int} : n ∈ uniq l ↔ n ∈ l := (uniq_spec l).2 n
theorem entries_ok {c : Co} (h : Good c) {n : Int} (hn : n ∈ entries c) : ∃ i : Nat, n = i ∧ i < c.instrs.length := by
  unfold entries at hn
  rw [mem_uniq, List.mem_filter] at hn
  obtain ⟨h1, h2⟩ := hn
  have h3 : 0 ≤ n := by simpa using h2
  have hp := h.i1
  refine ⟨n.toNat, by omega, ?_⟩
  have h4 : n < c.instrs.length := by
    unfold entL at h1
    simp only [List.cons_append, List.mem_cons, List.mem_append, List.mem_flatMap] at h1
    rcases h1 with rfl | ⟨d, hd, hx⟩ | ⟨l, hl, hx⟩
    · omega
    · obtain ⟨g1, g2, g3, g4⟩ := good_desc h hd
      unfold De.places at hx
      simp only [List.mem_cons, List.not_mem_nil, or_false] at hx
      rcases hx with rfl | rfl | rfl | rfl <;> assumption
    · obtain ⟨g1, g2⟩ := h.labels l hl
      simp only [List.mem_cons, List.not_mem_nil, or_false] at hx
      rcases hx with rfl | rfl
      · exact good_inside g1
      · exact good_inside g2
  omega
theorem nextL_mem {c : Co} {a : Nat} {n : Int} : n ∈ nextL c a ↔ n ∈ nextRaw (c.instrs.getD a default) a ∧ n < c.instrs.length := by
  unfold nextL
  rw [mem_uniq, List.mem_filter]
  simp
theorem nextRaw_len (x : Ins) (a : Int) : (nextRaw x a).length ≤ 2 := by
  unfold nextRaw; split
  · simp
  · split
    · simp
    · split <;> simp
theorem nextL_len (c : Co) (a : Nat) : (nextL c a).length ≤ 2 :=
  Nat.le_trans (uniq_len _) (Nat.le_trans (List.length_filter_le _ _) (nextRaw_len _ _))
theorem nextL_ok {c : Co} (h : Good c) {a : Nat} (ha : a < c.instrs.length) {n : Int} (hn : n ∈ nextL c a) : ∃ i : Nat, n = i ∧ i < c.instrs.length := by
  rw [nextL_mem] at hn
  obtain ⟨h1, h2⟩ := hn
  have hx : c.instrs.getD a default ∈ c.instrs := by
    rw [List.getD_eq_getElem?_getD, List.getElem?_eq_getElem ha]; exact List.getElem_mem ha
  generalize c.instrs.getD a default = x at h1 hx
  have h3 : 0 ≤ n := by
    unfold nextRaw at h1
    split at h1
    · simp at h1
    · split at h1
      · rename_i e; simp only [List.mem_cons, List.not_mem_nil, or_false] at h1; rw [h1]; exact (good_jump h hx (.inl e)).1
      · split at h1
        · rename_i e
          simp only [List.mem_cons, List.not_mem_nil, or_false] at h1
          rcases h1 with h1 | h1
          · rw [h1]; exact (good_jump h hx (.inr e)).1
          · omega
        · simp only [List.mem_cons, List.not_mem_nil, or_false] at h1; omega
  exact ⟨n.toNat, by omega, by omega⟩
structure RInv (c : Co) (td : List Int) (bs : List Bool) : Prop where
  len : bs.length = c.instrs.length
  tdok : ∀ x ∈ td, ∃ i : Nat, x = i ∧ i < c.instrs.length ∧ Rch c i
  sound : ∀ i : Nat, bs[i]? = some true → Rch c i
  ent : ∀ i : Nat, (i : Int) ∈ entries c → bs[i]? = some true ∨ (i : Int) ∈ td
  cl : ∀ j i : Nat, bs[j]? = some true → (i : Int) ∈ nextL c j → bs[i]? = some true ∨ (i : Int) ∈ td
theorem RInv.begin {c : Co} (h : Good c) : RInv c (entries c) (List.replicate c.instrs.length false) where
  len := by simp
  tdok := fun x hx => by
    obtain ⟨i, rfl, hi⟩ := entries_ok h hx
    exact ⟨i, rfl, hi, .entry hx⟩
  sound := fun i hi => by rw [List.getElem?_replicate] at hi; split at hi <;> simp at hi
  ent := fun i hi => .inr hi
  cl := fun j i hj => by rw [List.getElem?_replicate] at hj; split at hj <;> simp at hj
theorem RInv.seen {c : Co} {td : List Int} {a : Nat} {bs : List Bool} (h : RInv c (td ++ [(a : Int)]) bs) (ha : bs[a]? = some true) : RInv c td bs where
  len := h.len
  tdok := fun x hx => h.tdok x (by simp [hx])
  sound := h.sound
  ent := fun i hi => by
    rcases h.ent i hi with h1 | h1
    · exact .inl h1
    · rcases List.mem_append.1 h1 with h1 | h1
      · exact .inr h1
      · have : i = a := by have : (i : Int) = a := (by simpa using h1); omega
        rw [this]; exact .inl ha
  cl := fun j i hj hi => by
    rcases h.cl j i hj hi with h1 | h1
    · exact .inl h1
    · rcases List.mem_append.1 h1 with h1 | h1
      · exact .inr h1
      · have : i = a := by have : (i : Int) = a := (by simpa using h1); omega
        rw [this]; exact .inl ha
theorem RInv.mark {c : Co} (hg : Good c) {td : List Int} {a : Nat} {bs : List Bool} (h : RInv c (td ++ [(a : Int)]) bs) : RInv c (td ++ nextL c a) (bs.set a true) := by
  obtain ⟨i0, e0, hlt, hra⟩ := h.tdok a (by simp)
  obtain rfl : a = i0 := by omega
  have hlt2 : a < bs.length := by rw [h.len]; exact hlt
  have hset : ∀ i : Nat, (bs.set a true)[i]? = some true ↔ i = a ∨ bs[i]? = some true := fun i => by
    rw [List.getElem?_set]
    by_cases e : a = i
    · subst e; simp [hlt2]
    · rw [if_neg e]; constructor
      · exact fun h => .inr h
      · rintro (h | h)
        · exact absurd h.symm e
        · exact h
  have keep : ∀ i : Nat, (bs[i]? = some true ∨ (i : Int) ∈ td ++ [(a : Int)]) → (bs.set a true)[i]? = some true ∨ (i : Int) ∈ td ++ nextL c a := fun i hi => by
    rcases hi with h1 | h1
    · exact .inl ((hset i).2 (.inr h1))
    · rcases List.mem_append.1 h1 with h1 | h1
      · exact .inr (List.mem_append_left _ h1)
      · exact .inl ((hset i).2 (.inl (by have : (i : Int) = a := (by simpa using h1); omega)))
  refine ⟨by rw [List.length_set]; exact h.len, fun x hx => ?_, fun i hi => ?_, fun i hi => keep i (h.ent i hi), fun j i hj hi => ?_⟩
  · rcases List.mem_append.1 hx with hx | hx
    · exact h.tdok x (by simp [hx])
    · obtain ⟨i, rfl, hi⟩ := nextL_ok hg hlt hx
      exact ⟨i, rfl, hi, .step hra hx⟩
  · rcases (hset i).1 hi with rfl | h1
    · exact hra
    · exact h.sound i h1
  · rcases (hset j).1 hj with rfl | h1
    · exact .inr (List.mem_append_right _ hi)
    · exact keep i (h.cl j i h1 hi)
theorem RInv.done {c : Co} {bs : List Bool} (h : RInv c [] bs) (i : Nat) : bs[i]? = some true ↔ Rch c i := by
  refine ⟨h.sound i, fun hr => ?_⟩
  induction hr with
  | entry hi => exact (h.ent _ hi).resolve_right (by simp)
  | step _ hi ih => exact (h.cl _ _ ih hi).resolve_right (by simp)
def falses (bs : List Bool) : Nat := bs.count false
theorem falses_set : ∀ (bs : List Bool) (a : Nat), bs[a]? = some false → falses (bs.set a true) + 1 = falses bs
  | [], a, h => by simp at h
  | b :: r, 0, h => by
    simp only [List.getElem?_cons_zero, Option.some.injEq] at h
    subst h
    simp [falses]
  | b :: r, a + 1, h => by
    simp only [List.getElem?_cons_succ] at h
    have := falses_set r a h
    unfold falses at *
    rw [List.set_cons_succ, List.count_cons, List.count_cons]
    omega
end Go.Proofs.YtlaepkmnbbgbcaaGreatDoor
/- What Strip leaves, in plain Lean: it is well-formed; without marks nothing turns. -/
namespace Go.Proofs.YtlaepkmnbbgbcaaGreatDoor
open Go.RowKit Go.Instr
set_option linter.unusedVariables false
set_option linter.unusedSimpArgs false

def nmC (c : Co) : Nat := (c.instrs.filter notMark).length
theorem toN_eq (c : Co) (i : Nat) : toN c i = (((c.instrs.take i).filter notMark).length : Nat) := rfl
theorem toN_lt {c : Co} (hl : lastOp c ≠ 53) {i : Nat} (hi : i < c.instrs.length) : ((c.instrs.take i).filter notMark).length < nmC c := by
  unfold nmC
  have h1 : c.instrs = c.instrs.take i ++ c.instrs.drop i := (List.take_append_drop i c.instrs).symm
  have h2 : (c.instrs.filter notMark).length = ((c.instrs.take i).filter notMark).length + ((c.instrs.drop i).filter notMark).length := by
    conv => lhs; rw [h1]
    rw [List.filter_append, List.length_append]
  obtain ⟨y, hy⟩ : ∃ y, c.instrs[c.instrs.length - 1]? = some y := ⟨_, List.getElem?_eq_getElem (by omega)⟩
  have hlast : lastOp c = y.op := by unfold lastOp; rw [List.getD_eq_getElem?_getD, hy]; rfl
  have hmem : y ∈ c.instrs.drop i := by
    refine List.mem_of_getElem? (i := c.instrs.length - 1 - i) ?_
    rw [List.getElem?_drop, show i + (c.instrs.length - 1 - i) = c.instrs.length - 1 by omega]; exact hy
  have hf : y ∈ (c.instrs.drop i).filter notMark := List.mem_filter.2 ⟨hmem, by unfold notMark; rw [hlast] at hl; simpa using hl⟩
  have := List.length_pos_of_mem hf
  omega
theorem moved_nat {c : Co} {i : Nat} (hi : i < c.instrs.length) : movedC c (i : Nat) = toN c i := by
  unfold movedC; rw [if_neg (by omega)]; exact toL_at c hi
theorem strip_len (c : Co) : (stripC c).instrs.length = nmC c := by
  show (stripI c).length = _
  unfold stripI nmC; rw [List.length_map]
theorem strip_place {c : Co} (hl : lastOp c ≠ 53) {n : Int} (h : placeB c n = true) : placeB (stripC c) (movedC c n) = true := by
  unfold placeB at h ⊢
  simp only [Bool.and_eq_true, decide_eq_true_eq] at h ⊢
  rw [strip_len]
  by_cases hn : n < 0
  · have : movedC c n = n := by unfold movedC; rw [if_pos hn]
    rw [this]; omega
  · obtain ⟨i, rfl⟩ : ∃ i : Nat, n = i := ⟨n.toNat, by omega⟩
    rw [moved_nat (by omega), toN_eq]
    have := toN_lt hl (i := i) (by omega)
    omega
theorem strip_inside {c : Co} (hl : lastOp c ≠ 53) {n : Int} (h : insideB c n = true) : insideB (stripC c) (movedC c n) = true := by
  unfold insideB at h ⊢
  simp only [Bool.and_eq_true, decide_eq_true_eq] at h ⊢
  rw [strip_len]
  obtain ⟨i, rfl⟩ : ∃ i : Nat, n = i := ⟨n.toNat, by omega⟩
  rw [moved_nat (by omega), toN_eq]
  have := toN_lt hl (i := i) (by omega)
  omega
theorem de_f {α : Type} (c : Co) (f : De → α) (hf : ∀ x, f (stripD c x) = f x) (i : Int) : f ((stripC c).de i) = f (c.de i) := by
  unfold Co.de stripC
  rw [List.getD_eq_getElem?_getD, List.getD_eq_getElem?_getD, List.getElem?_map]
  cases h : c.descs[i.toNat]? with
  | none => rfl
  | some x => exact hf x
theorem de_in {c : Co} {i : Nat} (hi : i < c.descs.length) : (stripC c).de i = stripD c (c.de i) := by
  unfold Co.de stripC
  rw [List.getD_eq_getElem?_getD, List.getD_eq_getElem?_getD, List.getElem?_map, show (((i : Nat) : Int).toNat) = i from rfl, List.getElem?_eq_getElem hi]; rfl
theorem strip_descs (c : Co) : (stripC c).descs.length = c.descs.length := by show (c.descs.map _).length = _; rw [List.length_map]
theorem strip_level (c : Co) (d : De) (q : Nat) : levelB (stripC c) (stripD c d) q = levelB c d q := by
  unfold levelB
  rw [strip_descs, de_f c De.chain (fun _ => rfl)]; rfl
theorem strip_virt (c : Co) (d : De) (q : Nat) : virtB (stripC c) (stripD c d) q = virtB c d q := by
  unfold virtB
  rw [strip_descs]; rfl
theorem strip_chain (c : Co) (i : Nat) (d : De) : chainB (stripC c) i (stripD c d) = chainB c i d := by
  unfold chainB
  have : levelB (stripC c) (stripD c d) = levelB c d := funext fun q => strip_level c d q
  rw [this]; rfl
theorem strip_before (c : Co) (d : De) : beforeD (stripC c) (stripD c d) = beforeD c d := by
  unfold beforeD
  rw [de_f c De.offset (fun _ => rfl), de_f c De.cells (fun _ => rfl)]; rfl
theorem strip_desc {c : Co} (hl : lastOp c ≠ 53) {i : Nat} (hi : i < c.descs.length) (h : descB c i = true) : descB (stripC c) i = true := by
  unfold descB at h ⊢
  rw [de_in hi]
  dsimp only at h ⊢
  have hv : virtB (stripC c) (stripD c (c.de i)) = virtB c (c.de i) := funext fun q => strip_virt c _ q
  rw [strip_chain, strip_before, hv]
  simp only [Bool.and_eq_true] at h ⊢
  obtain ⟨⟨⟨⟨⟨⟨⟨h1, hv2⟩, h2⟩, h3⟩, h4⟩, h5⟩, h6⟩, h7⟩ := h
  exact ⟨⟨⟨⟨⟨⟨⟨h1, hv2⟩, strip_place hl h2⟩, strip_place hl h3⟩, strip_place hl h4⟩, strip_place hl h5⟩, h6⟩, h7⟩
def isI (k : Ck) : Bool := match k with | .idx f => decide (f = 102) | _ => false
theorem ops_idx : (opT.all fun o => (!(isI o.a) || decide (o.key = 42) || decide (o.key = 43)) && !(isI o.b)) = true := by decide +kernel
theorem ops_jump : (opT.all fun o => !(decide (o.key = 42) || decide (o.key = 43)) || isI o.a) = true := by decide +kernel
theorem strip_ck {c : Co} {k : Ck} (hk : isI k = false) (n : Int) : ckB (stripC c) k n = ckB c k n := by
  cases k with
  | none => rfl
  | btw lo hi => rfl
  | idx f =>
    have hf : ¬ f = 102 := by unfold isI at hk; simpa using hk
    have : (stripC c).lenOf f = c.lenOf f := by
      unfold Co.lenOf
      rw [if_neg hf, if_neg hf, strip_descs, show (stripC c).labels.length = c.labels.length from List.length_map ..]
      rfl
    show decide (0 ≤ n ∧ n < ((stripC c).lenOf f : Nat)) = decide (0 ≤ n ∧ n < (c.lenOf f : Nat))
    rw [this]
  | int => rfl
  | text => rfl
theorem strip_ins {c : Co} (hg : Good c) (hl : lastOp c ≠ 53) {x : Ins} (hx : x ∈ c.instrs) : insE (stripC c) (moveI c x) = 0 := by
  have he := hg.instrs x hx
  have hop : (moveI c x).op = x.op := by unfold moveI; split <;> rfl
  have hb : (moveI c x).b = x.b := by unfold moveI; split <;> rfl
  unfold insE at he ⊢
  rw [hop]
  cases ho : opFind x.op with
  | none => rw [ho] at he; simp at he
  | some o =>
    rw [ho] at he
    simp only at he ⊢
    have hm := List.mem_of_find?_eq_some ho
    have hok : o.key = x.op := by simpa [opFind] using List.find?_some ho
    have h1 := List.all_eq_true.1 ops_idx o hm
    have h2 := List.all_eq_true.1 ops_jump o hm
    simp only [Bool.and_eq_true, Bool.or_eq_true, Bool.not_eq_true', decide_eq_true_eq] at h1 h2
    have hc : (ckB c o.a x.a && ckB c o.b x.b) = true := by
      cases hv : (ckB c o.a x.a && ckB c o.b x.b) with
      | true => rfl
      | false => rw [hv] at he; simp at he
    simp only [Bool.and_eq_true] at hc
    rw [hb, strip_ck h1.2, hc.2, Bool.and_true]
    by_cases hj : x.op = 42 ∨ x.op = 43
    · have ha : (moveI c x).a = movedC c x.a := by unfold moveI; rw [if_pos hj]
      obtain ⟨g1, g2⟩ := good_jump hg hx hj
      have hi : isI o.a = true := by
        rcases h2 with h2 | h2
        · rw [hok] at h2
          rcases hj with e | e <;> simp [e] at h2
        · exact h2
      obtain ⟨i, hi2⟩ : ∃ i : Nat, x.a = i := ⟨x.a.toNat, by omega⟩
      rw [ha, hi2, moved_nat (by omega), toN_eq]
      have hlt := toN_lt hl (i := i) (by omega)
      cases hoa : o.a with
      | idx f =>
        rw [hoa] at hi
        have hf : f = 102 := by unfold isI at hi; simpa using hi
        have hck : ckB (stripC c) (.idx f) (((c.instrs.take i).filter notMark).length : Nat) = true := by
          obtain ⟨m, hm⟩ : ∃ m, ((c.instrs.take i).filter notMark).length = m := ⟨_, rfl⟩
          rw [hm] at hlt ⊢
          show decide ((0 : Int) ≤ (m : Int) ∧ (m : Int) < (((stripC c).lenOf f : Nat) : Int)) = true
          have : (stripC c).lenOf f = nmC c := by unfold Co.lenOf; rw [if_pos hf, strip_len]
          rw [this]
          exact decide_eq_true ⟨by omega, by omega⟩
        rw [hck]; rfl
      | none => rw [hoa] at hi; cases hi
      | btw lo hi3 => rw [hoa] at hi; cases hi
      | int => rw [hoa] at hi; cases hi
      | text => rw [hoa] at hi; cases hi
    · have ha : (moveI c x).a = x.a := by unfold moveI; rw [if_neg hj]
      have hi : isI o.a = false := by
        cases hv : isI o.a with
        | false => rfl
        | true =>
          rcases h1.1 with (h3 | h3) | h3
          · rw [hv] at h3; cases h3
          · exact absurd (.inl (by rw [← hok]; exact h3)) hj
          · exact absurd (.inr (by rw [← hok]; exact h3)) hj
      rw [ha, strip_ck hi, hc.1]; rfl
theorem strip_good {c : Co} (hg : Good c) (hl : lastOp c ≠ 53) : Good (stripC c) where
  i1 := by rw [strip_len]; have := toN_lt hl (i := 0) (by have := hg.i1; omega); omega
  i2 := by rw [strip_len]; exact Nat.le_trans (List.length_filter_le _ _) hg.i2
  d1 := by rw [strip_descs]; exact hg.d1
  d2 := by rw [strip_descs]; exact hg.d2
  l2 := by show (c.labels.map _).length ≤ _; rw [List.length_map]; exact hg.l2
  t2 := hg.t2
  r2 := hg.r2
  descs := fun i hi => by rw [strip_descs] at hi; exact strip_desc hl hi (hg.descs i hi)
  labels := fun l hll => by
    obtain ⟨l0, h0, rfl⟩ := List.mem_map.1 (show l ∈ c.labels.map (stripL c) from hll)
    obtain ⟨g1, g2⟩ := hg.labels l0 h0
    exact ⟨strip_inside hl g1, strip_inside hl g2⟩
  texts := hg.texts
  reals := hg.reals
  instrs := fun x hx => by
    obtain ⟨y, hy, rfl⟩ := List.mem_map.1 (show x ∈ (c.instrs.filter notMark).map (moveI c) from hx)
    exact strip_ins hg hl (List.mem_filter.1 hy).1
/-! ### Without marks -/
theorem strip_nomark (c : Co) : ∀ x ∈ (stripC c).instrs, notMark x = true := by
  intro x hx
  obtain ⟨y, hy, rfl⟩ := List.mem_map.1 (show x ∈ (c.instrs.filter notMark).map (moveI c) from hx)
  have := (List.mem_filter.1 hy).2
  unfold notMark at this ⊢
  have hop : (moveI c y).op = y.op := by unfold moveI; split <;> rfl
  rw [hop]; exact this
theorem nomark_last {c : Co} (hg : Good c) (h : ∀ x ∈ c.instrs, notMark x = true) : lastOp c ≠ 53 := by
  have h1 := hg.i1
  obtain ⟨y, hy⟩ : ∃ y, c.instrs[c.instrs.length - 1]? = some y := ⟨_, List.getElem?_eq_getElem (by omega)⟩
  have hlast : lastOp c = y.op := by unfold lastOp; rw [List.getD_eq_getElem?_getD, hy]; rfl
  have := h y (List.mem_of_getElem? hy)
  unfold notMark at this
  rw [hlast]; simpa using this
theorem nomark_moved {c : Co} (h : ∀ x ∈ c.instrs, notMark x = true) {n : Int} (hn : n < c.instrs.length) : movedC c n = n := by
  by_cases h0 : n < 0
  · unfold movedC; rw [if_pos h0]
  · obtain ⟨i, rfl⟩ : ∃ i : Nat, n = i := ⟨n.toNat, by omega⟩
    rw [moved_nat (by omega), toN_eq, List.filter_eq_self.2 (fun x hx => h x (List.mem_of_mem_take hx)), List.length_take]
    omega
/-- A code without marks stays. -/
theorem nomark_strip {c : Co} (hg : Good c) (h : ∀ x ∈ c.instrs, notMark x = true) : stripC c = c := by
  obtain ⟨descs, labels, texts, reals, instrs⟩ := c
  unfold stripC
  congr 1
  · refine (List.map_congr_left fun d hd => ?_).trans (List.map_id _)
    obtain ⟨g1, g2, g3, g4⟩ := good_desc hg hd
    unfold stripD
    rw [nomark_moved h g1, nomark_moved h g2, nomark_moved h g3, nomark_moved h g4]; rfl
  · refine (List.map_congr_left fun l hl => ?_).trans (List.map_id _)
    obtain ⟨g1, g2⟩ := hg.labels l hl
    unfold stripL
    rw [nomark_moved h (good_inside g1), nomark_moved h (good_inside g2)]; rfl
  · unfold stripI
    rw [List.filter_eq_self.2 h]
    refine (List.map_congr_left fun x hx => ?_).trans (List.map_id _)
    unfold moveI
    split
    · rename_i hj
      rw [nomark_moved h (good_jump hg hx hj).2]; rfl
    · rfl
end Go.Proofs.YtlaepkmnbbgbcaaGreatDoor
/- What was reached is reached behind Strip. -/
namespace Go.Proofs.YtlaepkmnbbgbcaaGreatDoor
open Go.RowKit Go.Instr
set_option linter.unusedVariables false
set_option linter.unusedSimpArgs false

def tnC (c : Co) (i : Nat) : Nat := ((c.instrs.take i).filter notMark).length
theorem filter_at {α : Type} (p : α → Bool) (l : List α) {j : Nat} {x : α} (hx : l[j]? = some x) (hp : p x = true) : (l.filter p)[((l.take j).filter p).length]? = some x := by
  have hlt := (List.getElem?_eq_some_iff.1 hx).1
  have hd : l.drop j = x :: l.drop (j + 1) := by
    rw [List.drop_eq_getElem_cons hlt]; congr 1; exact (List.getElem?_eq_some_iff.1 hx).2
  have h1 : l.filter p = (l.take j).filter p ++ (x :: l.drop (j + 1)).filter p := by
    rw [← hd, ← List.filter_append, List.take_append_drop]
  rw [h1, List.getElem?_append_right (Nat.le_refl _), Nat.sub_self, List.filter_cons, if_pos hp]; rfl
theorem tn_succ {c : Co} {j : Nat} {x : Ins} (hx : c.instrs[j]? = some x) : tnC c (j + 1) = tnC c j + if notMark x then 1 else 0 := by
  unfold tnC
  rw [filt_take c hx, List.length_append]
  split <;> simp
theorem moved_tn {c : Co} {i : Nat} (hi : i < c.instrs.length) : movedC c (i : Nat) = (tnC c i : Nat) := moved_nat hi
theorem strip_at {c : Co} {j : Nat} {x : Ins} (hx : c.instrs[j]? = some x) (hm : notMark x = true) : (stripC c).instrs[tnC c j]? = some (moveI c x) := by
  show (stripI c)[tnC c j]? = _
  unfold stripI
  rw [List.getElem?_map, show (c.instrs.filter notMark)[tnC c j]? = some x from filter_at notMark c.instrs hx hm]; rfl
theorem rch_lt {c : Co} (hg : Good c) {i : Nat} (h : Rch c i) : i < c.instrs.length := by
  induction h with
  | entry h => obtain ⟨j, e, hj⟩ := entries_ok hg h; omega
  | step _ h ih => obtain ⟨j, e, hj⟩ := nextL_ok hg ih h; omega
theorem mem_entries {c : Co} {n : Int} : n ∈ entries c ↔ n ∈ entL c ∧ 0 ≤ n := by
  unfold entries
  rw [mem_uniq, List.mem_filter]; simp
theorem strip_rch {c : Co} (hg : Good c) (hl : lastOp c ≠ 53) {i : Nat} (h : Rch c i) : Rch (stripC c) (tnC c i) := by
  induction h with
  | @entry i h =>
    refine .entry ?_
    have hlt : i < c.instrs.length := by obtain ⟨j, e, hj⟩ := entries_ok hg h; omega
    rw [mem_entries] at h ⊢
    refine ⟨?_, by omega⟩
    have h1 := h.1
    unfold entL at h1 ⊢
    simp only [List.cons_append, List.mem_cons, List.mem_append, List.mem_flatMap] at h1 ⊢
    rcases h1 with h1 | ⟨d, hd, hx⟩ | ⟨l, hll, hx⟩
    · left
      have : i = 0 := by omega
      rw [this]; rfl
    · right; left
      refine ⟨stripD c d, List.mem_map.2 ⟨d, hd, rfl⟩, ?_⟩
      unfold De.places at hx ⊢
      simp only [List.mem_cons, List.not_mem_nil, or_false] at hx ⊢
      unfold stripD
      simp only
      rcases hx with e | e | e | e
      · left; rw [← e, moved_tn hlt]
      · right; left; rw [← e, moved_tn hlt]
      · right; right; left; rw [← e, moved_tn hlt]
      · right; right; right; rw [← e, moved_tn hlt]
    · right; right
      refine ⟨stripL c l, List.mem_map.2 ⟨l, hll, rfl⟩, ?_⟩
      simp only [List.mem_cons, List.not_mem_nil, or_false] at hx ⊢
      unfold stripL
      simp only
      rcases hx with e | e
      · left; rw [← e, moved_tn hlt]
      · right; rw [← e, moved_tn hlt]
  | @step j i hj h ih =>
    have hjl := rch_lt hg hj
    obtain ⟨i', e', hil⟩ := nextL_ok hg hjl h
    obtain rfl : i = i' := by omega
    obtain ⟨x, hx⟩ : ∃ x, c.instrs[j]? = some x := ⟨_, List.getElem?_eq_getElem hjl⟩
    have hxd : c.instrs.getD j default = x := by rw [List.getD_eq_getElem?_getD, hx]; rfl
    have hmem : x ∈ c.instrs := List.mem_of_getElem? hx
    have h1 := (nextL_mem.1 h).1
    rw [hxd] at h1
    by_cases hm : x.op = 53
    · have hn : (i : Int) = j + 1 := by
        unfold nextRaw stops at h1
        simp [hm] at h1
        omega
      have hi : i = j + 1 := by omega
      have : tnC c i = tnC c j := by rw [hi, tn_succ hx]; unfold notMark; simp [hm]
      rw [this]; exact ih
    · have hnm : notMark x = true := by unfold notMark; simpa using hm
      refine .step ih ?_
      rw [nextL_mem]
      have hat := strip_at hx hnm
      have hgd : (stripC c).instrs.getD (tnC c j) default = moveI c x := by rw [List.getD_eq_getElem?_getD, hat]; rfl
      rw [hgd, strip_len]
      refine ⟨?_, by have := toN_lt hl hil; unfold tnC; omega⟩
      have hop : (moveI c x).op = x.op := by unfold moveI; split <;> rfl
      have hsucc : i = j + 1 → (tnC c i : Int) = (tnC c j : Int) + 1 := fun e => by rw [e, tn_succ hx, hnm]; simp
      unfold nextRaw at h1 ⊢
      rw [hop]
      by_cases hs : stops x.op = true
      · rw [if_pos hs] at h1; simp at h1
      · rw [if_neg hs] at h1 ⊢
        by_cases h42 : x.op = 42
        · rw [if_pos h42] at h1 ⊢
          have ha : (moveI c x).a = movedC c x.a := by unfold moveI; rw [if_pos (.inl h42)]
          simp only [List.mem_cons, List.not_mem_nil, or_false] at h1 ⊢
          rw [ha, ← h1, moved_tn hil]
        · rw [if_neg h42] at h1 ⊢
          by_cases h43 : x.op = 43
          · rw [if_pos h43] at h1 ⊢
            have ha : (moveI c x).a = movedC c x.a := by unfold moveI; rw [if_pos (.inr h43)]
            simp only [List.mem_cons, List.not_mem_nil, or_false] at h1 ⊢
            rcases h1 with h1 | h1
            · left; rw [ha, ← h1, moved_tn hil]
            · right; exact hsucc (by omega)
          · rw [if_neg h43] at h1 ⊢
            simp only [List.mem_cons, List.not_mem_nil, or_false] at h1 ⊢
            exact hsucc (by omega)
end Go.Proofs.YtlaepkmnbbgbcaaGreatDoor
/- Reached, walked. -/
namespace Go.Proofs.YtlaepkmnbbgbcaaGreatDoor
open Go.RowKit Go.Instr Go.Sort
set_option linter.unusedVariables false
set_option linter.unusedSimpArgs false
attribute [local go_sem] Oper.semAt_some

theorem info_boolS : (Tryz.prog.info? 4).map (fun i => (i.zero, i.size, i.bytes)) = some (some (.bool false), 1, 1) := by kernel_rfl
/-- A row of bools of the call's own. -/
def OwnB (w : World) (base g n : Nat) (bs : List Bool) : Prop := w.ownsRow base 4 1 (.slice (some ⟨g, 0, none⟩) n n) n (bs.map Value.bool)
theorem OwnB.keep {S : Nat → Prop} {w w' : World} {base g n : Nat} {bs : List Bool} (h : OwnB w base g n bs) (hk : Keeps S w w') (hn : ¬ S g) : OwnB w' base g n bs := by
  refine ⟨h.1, ?_⟩
  rcases h.2 with ⟨e, _⟩ | ⟨g', cap, cur, e, h1, h2, r⟩
  · cases e
  · simp only [Value.slice.injEq, Option.some.injEq, Addr.mk.injEq, and_true, true_and] at e
    obtain ⟨rfl, rfl⟩ := e
    exact .inr ⟨g, n, cur, rfl, h1, hk.obj h2 hn, r⟩
theorem OwnB.blk {w : World} {base g n : Nat} {bs : List Bool} (h : OwnB w base g n bs) : Blk w g (bs.map Value.bool).toArray 4 ∧ bs.length = n := by
  have hl := h.1
  rw [List.length_map, Nat.mul_one] at hl
  refine ⟨?_, hl⟩
  rcases h.2 with ⟨e, _⟩ | ⟨g', cap, cur, e, h1, h2, h3, h4, h5, h6⟩
  · cases e
  · simp only [Value.slice.injEq, Option.some.injEq, Addr.mk.injEq, and_true, true_and] at e
    obtain ⟨rfl, rfl⟩ := e
    rw [Nat.mul_one] at h5 h6
    have : cur.toList = bs.map Value.bool := by rw [← h6]; exact (List.take_of_length_le (by rw [Array.length_toList]; omega)).symm
    unfold Blk
    rw [h2, ← this]
theorem OwnB.set {w : World} {base g n : Nat} {bs : List Bool} (h : OwnB w base g n bs) (a : Nat) : OwnB (w.setCell ⟨g, a, none⟩ (.bool true)) base g n (bs.set a true) := by
  have := (World.ownsRow.stored h a (.bool true)).1
  unfold OwnB
  rw [List.map_set]; exact this
theorem own_blk {w : World} {base : Nat} {v : Value} {l : List Int} (h : OwnI w base v l) {b : Nat} (hb : v.ownBlock = some b) {g n base' : Nat} {bs : List Bool} (hB : OwnB w base' g n bs) : b ≠ g := by
  obtain ⟨cur, hc⟩ := own_type h hb
  exact Blk.ne (c := cur) hc hB.blk.1 (by decide)
/-- How many cells of a block are false. -/
def falseIn (w : World) (g : Nat) : Nat := match w.heap[g]? with
  | some (.cells cs _ _) => (cs.toList.filter fun v => match v with | .bool false => true | _ => false).length
  | _ => 0
theorem falseIn_of {w : World} {base g n : Nat} {bs : List Bool} (h : OwnB w base g n bs) : falseIn w g = falses bs := by
  have hb := h.blk.1
  unfold Blk at hb
  unfold falseIn
  rw [hb]
  show ((bs.map Value.bool).filter _).length = _
  unfold falses
  clear hb h
  induction bs with
  | nil => rfl
  | cons b r ih =>
    cases b
    · rw [List.map_cons, List.filter_cons, List.count_cons]; simp only [if_true]; rw [List.length_cons, ih]; rfl
    · rw [List.map_cons, List.filter_cons, List.count_cons]; simp only [Bool.false_eq_true, if_false]; rw [ih]; rfl
def lenV : Value → Nat
  | .slice _ n _ => n
  | _ => 0
/-- What Reached answers. -/
def ReachR (w : World) (c : Co) (e : Ending) (w' : World) : Prop :=
  if (chk c).1 = 0 then ∃ g bs, e = .returned (.tuple #[.slice (some ⟨g, 0, none⟩) c.instrs.length c.instrs.length, .int .i64 0]) ∧ w.heap.size ≤ g ∧ OwnB w' w.heap.size g c.instrs.length bs ∧ (∀ i : Nat, bs[i]? = some true ↔ Rch c i) ∧ Ex w w'
  else e = .returned (.tuple #[.slice none 0 0, .int .i64 1]) ∧ Ex w w'
theorem OwnI.pop {w : World} {base h n cap : Nat} {td : List Int} {x : Int} (ho : OwnI w base (.slice (some ⟨h, 0, none⟩) (n + 1) cap) (td ++ [x])) (hl : td.length = n) : OwnI w base (.slice (some ⟨h, 0, none⟩) n cap) td := by
  unfold OwnI at ho ⊢
  rw [List.map_append, List.length_append, hl] at ho
  rw [hl]
  exact ownsRow_pop (by rw [List.length_map, hl, Nat.mul_one]) ho
theorem entL_len (c : Co) : (entL c).length = 1 + 4 * c.descs.length + 2 * c.labels.length := by
  unfold entL
  have h1 : ∀ l : List De, (l.flatMap De.places).length = 4 * l.length := by
    intro l; induction l with
    | nil => rfl
    | cons y r ih => rw [List.flatMap_cons, List.length_append, ih, List.length_cons]; show 4 + _ = _; omega
  rw [List.length_append, List.length_cons, h1, pairs_len]; omega
theorem entries_len {c : Co} (h : Good c) : (entries c).length ≤ 20000 := by
  have h1 : (entries c).length ≤ (entL c).length := Nat.le_trans (uniq_len _) (List.length_filter_le _ _)
  rw [entL_len] at h1
  have := h.d2; have := h.l2; omega
set_option maxRecDepth 100000 in
set_option maxHeartbeats 8000000 in
theorem Reached_any {w : World} {dv lv tv rv iv : Value} {c : Co} {xs : List DeV} (h : RdCo w dv lv tv rv iv c xs) (hb : Big c) :
    Calls Tryz.prog 38 #[codeV dv lv tv rv iv] w (ReachR w c) := by
  obtain ⟨W1, hW1⟩ : ∃ W1, w.alloc (.cells #[dv, lv, tv, rv, iv] 28) = W1 := ⟨_, rfl⟩
  obtain ⟨b0, hb0⟩ : ∃ b0, w.heap.size = b0 := ⟨_, rfl⟩
  have hX1 : Ex w W1 := by rw [← hW1]; exact (Keeps.refl _ w).alloc _
  have hB0 : Blk W1 b0 #[dv, lv, tv, rv, iv] 28 := by rw [← hW1, ← hb0]; exact Blk.new w _ _
  have hs1 : W1.heap.size = b0 + 1 := by rw [← hW1, ← hb0, World.size_alloc]
  have hEn := Entries_any (h.ext hX1) hb
  have HNx : Hid (∀ (V : World) (a : Nat), Ex W1 V → a < c.instrs.length → Calls Tryz.prog 92 #[codeV dv lv tv rv iv, .int .i64 a] V fun e w' => ∃ v, e = .returned v ∧ OwnI w' V.heap.size v (nextL c a) ∧ Ex V w') := Lib.hid (fun V a hV ha => next_any ((h.ext hX1).ext hV) hb.i ha)
  obtain ⟨da, dc, rfl, -⟩ := id h.ds
  obtain ⟨la, lc, rfl, -⟩ := id h.ls
  obtain ⟨ta, tc, rfl, -⟩ := id h.ts
  obtain ⟨ra, rc, rfl, -⟩ := id h.rs
  obtain ⟨ia, ic, rfl, -⟩ := id h.is
  obtain ⟨ni, hni⟩ : ∃ n, c.instrs.length = n := ⟨_, rfl⟩
  have hn6 : ni ≤ 1000000 := by rw [← hni]; exact hb.i
  rw [hni] at hEn hB0 hW1 HNx ⊢
  have HF0 : ∀ V, Ex W1 V → Hid (V.cell? ⟨b0, 0, none⟩ = some (.slice da xs.length dc) ∧ V.cell? ⟨b0, 1, none⟩ = some (.slice la c.labels.length lc) ∧ V.cell? ⟨b0, 2, none⟩ = some (.slice ta c.texts.length tc) ∧ V.cell? ⟨b0, 3, none⟩ = some (.slice ra c.reals.length rc) ∧ V.cell? ⟨b0, 4, none⟩ = some (.slice ia ni ic)) := fun V hV =>
    ⟨((hV.blk hB0 id).cell 0).trans rfl, ((hV.blk hB0 id).cell 1).trans rfl, ((hV.blk hB0 id).cell 2).trans rfl, ((hV.blk hB0 id).cell 3).trans rfl, ((hV.blk hB0 id).cell 4).trans rfl⟩
  unfold codeV at hEn HNx ⊢
  have HX1 := Lib.hid hX1; have HW1 := Lib.hid hW1; have Hb0 := Lib.hid hb0; have HEn := Lib.hid hEn; have Hni := Lib.hid hni; have Hs1 := Lib.hid hs1; have HB0 := Lib.hid hB0
  clear h hX1 hB0 hW1 hb0 hEn hb hni hs1
  generalize hM : ReachR w c = M
  have HM := Lib.hid hM
  clear hM
  obtain ⟨x0, x1, x2, x3, x4⟩ := (HF0 W1 (Keeps.refl _ _)).out
  go_enter Tryz.func38, Tryz.ntmps38
  go_upto_region 1 with fail
  rw [HW1.out]
  try rw [Hb0.out]
  go_wp2_with fail
  refine HEn.out.mono ?_
  intro e w2 he
  unfold EntR at he
  clear x0 x1 x2 x3 x4 HEn
  by_cases hg : (chk c).1 = 0
  case neg =>
    rw [if_neg hg] at he
    obtain ⟨rfl, hx⟩ := he
    have HX := Lib.hid (HX1.out.trans hx)
    have HG := Lib.hid hg
    clear hx hg
    go_wp2_with fail
    rw [← HM.out]
    unfold ReachR
    rw [if_neg HG.out]
    exact ⟨rfl, HX.out⟩
  rw [if_pos hg] at he
  obtain ⟨v2, rfl, ho2, hx2⟩ := he
  have HG := Lib.hid hg
  have HGood := Lib.hid ((good_iff c).1 hg)
  rw [Hs1.out] at ho2
  obtain ⟨ea, ec, he2⟩ := own_slice ho2
  subst he2
  obtain ⟨el, hel⟩ : ∃ n, (entries c).length = n := ⟨_, rfl⟩
  rw [hel] at ho2 ⊢
  have HX2 := Lib.hid hx2; have HO2 := Lib.hid ho2; have Hel := Lib.hid hel
  clear hx2 ho2 hg hel
  obtain ⟨x0, x1, x2, x3, x4⟩ := (HF0 w2 HX2.out).out
  obtain ⟨i0, hi, hz0, hz1, hz2⟩ := info_split info_boolS
  go_upto_region 4 with fail
  go_wp2_with (at_make; refine (fun h => h trivial : (True → _) → _) ?_)
  intro _
  refine wpList_make_full _ rfl _ _ 70 rfl (b0 + 1) 4 i0 _ 1 Tryz.underlying70 hi hz0 hz1 .i64 .i64 ni ni ni rfl rfl rfl rfl (by rw [hz2]; omega) (by unfold maxLen; omega) (by have := HX2.out.size; rw [Hs1.out] at this; exact this) ?_
  intro w3 ho3 hg3
  obtain ⟨g, hgs⟩ : ∃ g, w2.heap.size = g := ⟨_, rfl⟩
  have hrep : (madeCells (Value.bool false).cells (ni * 1)).toList = (List.replicate ni false).map Value.bool := by
    rw [List.map_replicate, Nat.mul_one]; exact toList_madeCells_one _ _
  rw [hrep, hgs] at ho3
  rw [hgs]
  have hx3 : Ex w2 w3 := (Keeps.refl _ w2).grown hg3 (fun k hk => by cases hk)
  have hg1 : b0 + 1 ≤ g := by rw [← hgs, ← Hs1.out]; exact HX2.out.size
  have HX3 := Lib.hid (HX2.out.trans hx3)
  have HO3 : Hid (OwnI w3 (b0 + 1) (.slice ea el ec) (entries c)) := Lib.hid (HO2.out.kept hx3 fun _ _ => id)
  have HB3 : Hid (OwnB w3 (b0 + 1) g ni (List.replicate ni false)) := Lib.hid ho3
  have HI3 : Hid (RInv c (entries c) (List.replicate ni false)) := Lib.hid (by have := RInv.begin HGood.out; rw [Hni.out] at this; exact this)
  have HL3 : Hid ((entries c).length + 3 * falses (List.replicate ni false) ≤ 20000 + 3 * ni) := Lib.hid (by
    have h1 := entries_len HGood.out
    have h2 : falses (List.replicate ni false) = ni := by unfold falses; rw [List.count_replicate_self]
    rw [h2]; omega)
  clear ho3 hg3 hrep hgs hx3 HO2 x0 x1 x2 x3 x4 hi
  go_wp2_with fail
  go_loopw [4] (fun v wr => ∃ (td : List Int) (bs : List Bool), Hid (RInv c td bs) ∧ Hid (Ex W1 wr) ∧ Hid (OwnI wr (b0 + 1) v td) ∧ Hid (OwnB wr (b0 + 1) g ni bs) ∧ Hid (td.length + 3 * falses bs ≤ 20000 + 3 * ni)) (fun v wr => lenV v + 3 * falseIn wr g)
  case atStart => exact ⟨_, _, HI3, HX3, HO3, HB3, HL3⟩
  case round =>
    obtain ⟨td, bs, HI, HX, HO, HB, HL⟩ := hrel
    obtain ⟨x0, x1, x2, x3, x4⟩ := (HF0 wr HX.out).out
    rcases List.eq_nil_or_concat td with rfl | ⟨td', x, rfl⟩
    · obtain ⟨a1, c1, hv⟩ := own_slice HO.out
      simp only [List.length_nil] at hv
      subst hv
      go_wp2_with fail
      rw [← HM.out]
      unfold ReachR
      rw [if_pos HG.out, Hni.out]
      exact ⟨g, bs, rfl, by rw [Hb0.out]; omega, by
        have := HB.out
        unfold OwnB at this ⊢
        rw [Hb0.out]; exact row_base this (by omega), fun i => RInv.done HI.out i, HX1.out.trans HX.out⟩
    · rw [List.concat_eq_append] at HI HO HL
      obtain ⟨n, hn⟩ : ∃ n, td'.length = n := ⟨_, rfl⟩
      obtain ⟨b, cap, hv, hbb, hblt, hcap, -⟩ : ∃ (b cap : Nat), u4 = .slice (some ⟨b, 0, none⟩) (n + 1) cap ∧ b0 + 1 ≤ b ∧ b < wr.heap.size ∧ n + 1 ≤ cap ∧ True := by
        rcases HO.out.form with ⟨-, h2⟩ | ⟨b, cap, h1, h2, h3, h4, h5, -⟩
        · simp at h2
        · exact ⟨b, cap, by rw [h1, List.length_append, hn]; rfl, h2, h3, by rw [List.length_append, hn] at h4; exact h4, trivial⟩
      subst hv
      obtain ⟨a, ha, halt, -⟩ := HI.out.tdok x (by simp)
      subst ha
      rw [Hni.out] at halt
      have hl9 := HL.out
      rw [List.length_append, hn] at hl9
      have hf9 : falses bs ≤ ni := by rw [← HB.out.blk.2]; exact List.count_le_length ..
      have hz : wr.cell? ⟨b, n, none⟩ = some (.int .i64 (a : Nat)) := by
        have hrd : RdL encI wr (.slice (some ⟨b, 0, none⟩) (td' ++ [(a : Int)]).length cap) (td' ++ [(a : Int)]) := by
          have h9 := HO.out; unfold OwnI at h9; rw [← encI_flat] at h9
          have := own_rd encI_len h9
          rw [List.length_append, hn]; exact this
        have h8 := hrd.int_at (k := n) (by rw [List.length_append, hn]; simp)
        have e8 : (⟨b, 0, none⟩ : Addr).add n = ⟨b, n, none⟩ := by unfold Addr.add; split <;> simp_all
        rw [e8] at h8
        rw [h8]
        congr 2
        rw [List.getD_eq_getElem?_getD, List.getElem?_append_right (by omega), hn]; simp
      have hA : (⟨b, 0, none⟩ : Addr).add n = ⟨b, n, none⟩ := by unfold Addr.add; split <;> simp_all
      have hA2 : (⟨g, 0, none⟩ : Addr).add a = ⟨g, a, none⟩ := by unfold Addr.add; split <;> simp_all
      obtain ⟨bv, hbv⟩ : ∃ bv, bs[a]? = some bv := ⟨_, List.getElem?_eq_getElem (by rw [HB.out.blk.2]; exact halt)⟩
      have hzb : wr.cell? ⟨g, a, none⟩ = some (.bool bv) := by
        rw [HB.out.blk.1.cell a]; simp [hbv]
      have hfb : wr.frozen? ⟨g, a, none⟩ = false := HB.out.blk.1.frozen a
      have e1 : IntKind.i64.wrap (n : Int) = (n : Int) := by simp [IntKind.wrap_i64]; omega
      have e2 : IntKind.i64.wrap ((n : Int) + 1 - 1) = (n : Int) := by simp [IntKind.wrap_i64]; omega
      have e3 : (n : Int) < (n : Int) + 1 := by omega
      have e4 : (n : Int) ≤ cap := by omega
      have e5 : (0 : Int) < (n : Int) + 1 := by omega
      have e6 : ((a : Int) < ni) := by omega
      have HPop := Lib.hid (OwnI.pop HO.out hn)
      have Hn := Lib.hid hn; have Hbv := Lib.hid hbv; have Halt := Lib.hid halt; have Hl9 := Lib.hid hl9; have Hf9 := Lib.hid hf9
      clear hn hbv halt hl9 hf9 hcap
      cases bv with
      | true =>
        have HI2 := Lib.hid (RInv.seen HI.out Hbv.out)
        have HL2 : Hid (td'.length + 3 * falses bs ≤ 20000 + 3 * ni) := Lib.hid (by rw [Hn.out]; have := Hl9.out; simp at this; omega)
        go_wp2_with fail
        exact ⟨⟨td', bs, HI2, HX, HPop, HB, HL2⟩, by show n + 3 * falseIn wr g < n + 1 + 3 * falseIn wr g; omega⟩
      | false =>
        have HI2 := Lib.hid (RInv.mark HGood.out HI.out)
        obtain ⟨W4, hW4⟩ : ∃ W4, wr.setCell ⟨g, a, none⟩ (.bool true) = W4 := ⟨_, rfl⟩
        have hX4 : Ex W1 W4 := by rw [← hW4]; exact HX.out.setCell (.inr (by rw [Hs1.out]; exact hg1)) _
        have hB4 : OwnB W4 (b0 + 1) g ni (bs.set a true) := by rw [← hW4]; exact HB.out.set a
        have hbg : b ≠ g := own_blk HPop.out rfl HB.out
        have hO4 : OwnI W4 (b0 + 1) (.slice (some ⟨b, 0, none⟩) n cap) td' := by
          rw [← hW4]
          exact own_far HPop.out (fun k hk => by
            have : b = k := by injection hk
            rw [← this]; exact hbg) _
        have HX4 := Lib.hid hX4; have HB4 := Lib.hid hB4; have HO4 := Lib.hid hO4; have HW4 := Lib.hid hW4
        have HNx4 := Lib.hid (HNx.out W4 a hX4 (by have := Halt.out; exact this))
        clear hX4 hB4 hO4 hW4 hbg
        go_upto_region 10 with fail
        rw [HW4.out]
        clear x0 x1 x2 x3 x4 hz hzb hfb e1 e2 e3 e4 e5 e6 hA hA2
        obtain ⟨x0, x1, x2, x3, x4⟩ := (HF0 W4 HX4.out).out
        go_wp2_with fail
        refine HNx4.out.mono ?_
        rintro e w5 ⟨v5, rfl, ho5, hx5⟩
        have hr5 : RdL encI w5 v5 (nextL c a) := by have h9 := ho5; unfold OwnI at h9; rw [← encI_flat] at h9; exact own_rd encI_len h9
        obtain ⟨a5, n5, c5, hv5⟩ : ∃ a n c, v5 = .slice a n c := by obtain ⟨a, c, h, -⟩ := hr5; exact ⟨_, _, _, h⟩
        subst hv5
        have HX5 := Lib.hid (HX4.out.trans hx5)
        have HO5 : Hid (OwnI w5 (b0 + 1) (.slice (some ⟨b, 0, none⟩) n cap) td') := Lib.hid (HO4.out.kept hx5 fun _ _ => id)
        have HB5 := Lib.hid (HB4.out.keep hx5 id)
        have HR5 := Lib.hid hr5
        clear ho5 hx5 hr5 x0 x1 x2 x3 x4
        go_wp2_with (at_builtin; refine (fun h => h trivial : (True → _) → _) ?_)
        intro _
        refine wpList_appI rfl _ _ rfl (b0 + 1) _ _ rfl HO5.out _ (nextL c a) rfl HR5.out (by have := nextL_len c a; have := Hl9.out; have h1 : [((a : Nat) : Int)].length = 1 := rfl; rw [Hn.out]; omega) (by have := HX5.out.size; rw [Hs1.out] at this; exact this) ?_
        intro v6 w6 ho6 hx6 _
        have hB6 : OwnB w6 (b0 + 1) g ni (bs.set a true) := HB5.out.keep hx6 (fun e => own_blk HO5.out e HB5.out rfl)
        have HX6 : Hid (Ex W1 w6) := Lib.hid (HX5.out.ex HO5.out (by rw [Hs1.out]; exact Nat.le_refl _) hx6)
        obtain ⟨a6, c6, hv6⟩ := own_slice ho6
        subst hv6
        obtain ⟨m6, hm6⟩ : ∃ m, (td' ++ nextL c a).length = m := ⟨_, rfl⟩
        rw [hm6] at ho6 ⊢
        have HO6 := Lib.hid ho6; have HB6 := Lib.hid hB6
        have hfs := falses_set bs a Hbv.out
        have hm1 := falseIn_of hB6
        have hm2 := falseIn_of HB.out
        have hnl := nextL_len c a
        have hL6 : (td' ++ nextL c a).length + 3 * falses (bs.set a true) ≤ 20000 + 3 * ni := by
          rw [List.length_append, Hn.out]; have := Hl9.out; have h1 : [((a : Nat) : Int)].length = 1 := rfl; omega
        have hmeas : m6 + 3 * falseIn w6 g < n + 1 + 3 * falseIn wr g := by
          rw [← hm6, List.length_append, Hn.out, hm1, hm2]; omega
        have HL6 := Lib.hid hL6; have HMeas := Lib.hid hmeas
        clear ho6 hx6 hB6 hfs hm1 hm2 hnl hL6 hmeas hm6
        go_wp2_with fail
        go_roundw
        case rel => exact ⟨_, _, HI2, HX6, HO6, HB6, HL6⟩
        case measure => exact HMeas.out
end Go.Proofs.YtlaepkmnbbgbcaaGreatDoor
