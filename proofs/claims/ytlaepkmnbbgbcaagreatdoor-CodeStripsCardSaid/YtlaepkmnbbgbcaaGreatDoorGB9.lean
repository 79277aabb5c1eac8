/- append for rows of ints; wellFormed; entries of a code in plain Lean. Entries. The shelf's contracts for strings.Builder.String and strconv.Itoa, laid at this program (written by the kit's lay-shelf and lay-plain, cut down by wip/tools/prune.py). A strings.Builder of the call's own, written. -/
import Derived.Test.YtlaepkmnbbgbcaaGreatDoorGB8
import Derived.Test.YtlaepkmnbbgbcaaGreatDoorGB1
import Derived.Shelf.Strings.BuilderK
import Derived.Shelf.Strconv.Itoa3
import Derived.Test.YtlaepkmnbbgbcaaGreatDoorGB3
/- append for rows of ints; wellFormed; entries of a code in plain Lean. -/
namespace Go.Proofs.YtlaepkmnbbgbcaaGreatDoor
open Go.RowKit Go.Instr Go.Sort
set_option linter.unusedVariables false
set_option linter.unusedSimpArgs false
attribute [local go_sem] Oper.semAt_some

theorem info_intC : (Tryz.prog.info? 3).map (fun i => (i.zero, i.size, i.bytes)) = some (some (.int .i64 0), 1, 8) := by kernel_rfl
theorem info_split {P : Program} {t : TypeId} {z : Value} {s b : Nat} (h : (P.info? t).map (fun i => (i.zero, i.size, i.bytes)) = some (some z, s, b)) : ∃ i, P.info? t = some i ∧ i.zero = some z ∧ i.size = s ∧ i.bytes = b := by
  cases hi : P.info? t with
  | none => rw [hi] at h; cases h
  | some i =>
    rw [hi] at h
    simp only [Option.map_some, Option.some.injEq, Prod.mk.injEq] at h
    exact ⟨i, rfl, h.1, h.2.1, h.2.2⟩
theorem run_append_none {w : World} (base : Nat) (t ty e : TypeId) (i : TypeInfo) (size : Nat) (ht : (Tryz.prog).underlying t = some (.slice e)) (hi : (Tryz.prog).info? e = some i)
    (v : Value) (n : Nat) (xs : List Value) (hown : w.ownsRow base e size v n xs) (c : Nat) :
    (Builtin.append_ #[t, t] ty #[v, .slice none 0 c]).run Tryz.prog w = .ok v w := by
  rcases hown.2 with ⟨rfl, rfl⟩ | ⟨g, cap, cur, rfl, _, _, hnc, _⟩
  · simp [Builtin.append_, run_underlying ht, sizeOf, typeInfo, hi, Builtin.lenOf, Builtin.firstCells]
  · simp [Builtin.append_, run_underlying ht, sizeOf, typeInfo, hi, Builtin.lenOf, Builtin.firstCells, hnc, storeCells]
set_option maxRecDepth 100000 in
theorem wpList_appI {w : World} {ops : Array Oper} {rest : List Oper} {o : Oper} {a : Act} {Q : Exit → Act → World → Prop} (hgd : o.guard = none) (s x : Operand)
    (ho : o.op = .call { callee := .builtin .append, args := #[s, x], argTypes := #[47, 47] })
    (base : Nat) (v : Value) (l1 : List Int) (hs : a.eval s = v) (hown : OwnI w base v l1) (u : Value) (l2 : List Int) (hx : a.eval x = u) (hrow : RdL encI w u l2)
    (hl : l1.length + l2.length ≤ 1000000000) (hbase : base ≤ w.heap.size)
    (h : ∀ v' w', OwnI w' base v' (l1 ++ l2) → ExV v w w' → (∀ k, v'.ownBlock = some k → v.ownBlock = some k ∨ w.heap.size ≤ k) → wpList Tryz.prog ops Q rest (a.put o.dst v') w') : wpList Tryz.prog ops Q (o :: rest) a w := by
  obtain ⟨i0, hi, hz0, hz1, hz2⟩ := info_split info_intC
  obtain ⟨ad, c, rfl, -, h0, h1⟩ := hrow
  cases ad with
  | none =>
    have : l2 = [] := h0 rfl
    subst this
    refine wpList_plain hgd fun K hK => ?_
    have hrun := run_append_none (w := w) base 47 o.type 3 i0 1 Tryz.underlying47 hi v _ _ hown c
    have hx : a.eval x = .slice none 0 c := hx
    unfold Oper.wp
    simp [execOp, ho, resolve, invoke, builtin, hs, hx, hrun, Result.andThen]
    exact hK _ _ (h v w (by rw [List.append_nil]; exact hown) (Keeps.refl _ _) (fun k hk => .inl hk))
  | some ad =>
    refine wpList_append_fresh hgd s x 47 ho base 3 i0 _ 1 8 Tryz.underlying47 hi hz0 hz1 hz2 rfl (by decide) v l1.length _ hs hown ad l2.length _ (l2.map (Value.int .i64)) hx (by simp) (fun j z hz => h1 _ rfl j z (by rw [encI_flat]; exact hz)) (by intro u hu; obtain ⟨y, _, rfl⟩ := List.mem_map.1 hu; rfl) (by unfold maxLen; omega) (by omega) hbase ?_
    intro v' w' g1 g2 g3 g4
    refine h v' w' ?_ ⟨g2.os, g2.tape, g2.output, g2.size, fun k hk hn => g2.block k hk (fun e => hn e.symm)⟩ g4
    unfold OwnI
    rw [List.map_append, List.length_append]; exact g1

/-- wellFormed. -/
theorem wellFormed_any {w : World} {dv lv tv rv iv : Value} {c : Co} {xs : List DeV} (h : RdCo w dv lv tv rv iv c xs) (hb : Big c) :
    Calls Tryz.prog 46 #[codeV dv lv tv rv iv] w fun e w' => e = .returned (.bool (decide ((chk c).1 = 0))) ∧ Ex w w' := by
  obtain ⟨W1, hW1⟩ : ∃ W1, w.alloc (.cells #[dv, lv, tv, rv, iv] 28) = W1 := ⟨_, rfl⟩
  obtain ⟨b0, hb0⟩ : ∃ b0, w.heap.size = b0 := ⟨_, rfl⟩
  have hX1 : Ex w W1 := by rw [← hW1]; exact (Keeps.refl _ w).alloc _
  have hB0 : Blk W1 b0 #[dv, lv, tv, rv, iv] 28 := by rw [← hW1, ← hb0]; exact Blk.new w _ _
  have hc := Check_any (h.ext hX1) hb
  obtain ⟨da, dc, rfl, -⟩ := id h.ds
  obtain ⟨la, lc, rfl, -⟩ := id h.ls
  obtain ⟨ta, tc, rfl, -⟩ := id h.ts
  obtain ⟨ra, rc, rfl, -⟩ := id h.rs
  obtain ⟨ia, ic, rfl, -⟩ := id h.is
  have x0 : W1.cell? ⟨b0, 0, none⟩ = some (.slice da xs.length dc) := (hB0.cell 0).trans rfl
  have x1 : W1.cell? ⟨b0, 1, none⟩ = some (.slice la c.labels.length lc) := (hB0.cell 1).trans rfl
  have x2 : W1.cell? ⟨b0, 2, none⟩ = some (.slice ta c.texts.length tc) := (hB0.cell 2).trans rfl
  have x3 : W1.cell? ⟨b0, 3, none⟩ = some (.slice ra c.reals.length rc) := (hB0.cell 3).trans rfl
  have x4 : W1.cell? ⟨b0, 4, none⟩ = some (.slice ia c.instrs.length ic) := (hB0.cell 4).trans rfl
  unfold codeV at hc ⊢
  unfold ChkR at hc
  generalize (chk c).1 = E at hc ⊢
  generalize (chk c).2 = A at hc
  have HW1 := Lib.hid hW1; have Hb0 := Lib.hid hb0; have HX1 := Lib.hid hX1; have HC := Lib.hid hc
  clear hW1 hb0 hX1 hB0 hc h hb
  by_cases hE : E = 0
  · subst hE
    go_enter Tryz.func46, Tryz.ntmps46
    go_upto_region 1 with fail
    rw [HW1.out]
    try rw [Hb0.out]
    go_wp2_with (go_at_call 26; refine HC.out.mono ?_; rintro e w2 ⟨rfl, hx⟩; have HX := Lib.hid (HX1.out.trans hx); clear hx)
    go_ret
    exact ⟨rfl, HX.out⟩
  · have hE2 : (E == 0) = false := by simpa using hE
    rw [decide_eq_false hE]
    go_enter Tryz.func46, Tryz.ntmps46
    go_upto_region 1 with fail
    rw [HW1.out]
    try rw [Hb0.out]
    go_wp2_with (go_at_call 26; refine HC.out.mono ?_; rintro e w2 ⟨rfl, hx⟩; have HX := Lib.hid (HX1.out.trans hx); clear hx)
    go_ret
    exact ⟨rfl, HX.out⟩

/-! ### Entries, in plain Lean -/
def uniq (l : List Int) : List Int := Lib.compact (l.mergeSort fun x y => decide (x ≤ y))
def De.places (d : De) : List Int := [d.init, d.enter, d.do_, d.exit]
def entL (c : Co) : List Int := 0 :: c.descs.flatMap De.places ++ c.labels.flatMap fun l => [l.1, l.2]
def entries (c : Co) : List Int := uniq ((entL c).filter fun n => !decide (n < 0))
theorem compact_sorted {l : List Int} (hs : l.Pairwise (· ≤ ·)) : ∀ m, m ≤ l.length → (Lib.compactUpTo l.toArray m).Pairwise (· < ·) ∧ (∀ x ∈ Lib.compactUpTo l.toArray m, 0 < m ∧ x ≤ l.toArray[m - 1]!) ∧ ∀ x, x ∈ Lib.compactUpTo l.toArray m ↔ ∃ j, j < m ∧ l.toArray[j]! = x := by
  intro m
  induction m with
  | zero => intro _; simp [Lib.compactUpTo]
  | succ m ih =>
    intro hm
    obtain ⟨h1, h2, h3⟩ := ih (by omega)
    rw [Lib.compactUpTo_succ]
    have hle : 0 < m → l.toArray[m - 1]! ≤ l.toArray[m]! := by
      intro h0
      have := List.pairwise_iff_getElem.1 hs (m - 1) m (by omega) (by omega) (by omega)
      rw [getElem!_pos l.toArray (m - 1) (by simp; omega), getElem!_pos l.toArray m (by simp; omega)]
      simpa using this
    cases hk : Lib.keeps l.toArray m with
    | true =>
      simp only [if_true]
      have hlt : ∀ x ∈ Lib.compactUpTo l.toArray m, x < l.toArray[m]! := by
        intro x hx
        obtain ⟨h0, hx2⟩ := h2 x hx
        have h4 := hle h0
        unfold Lib.keeps at hk
        simp only [Bool.or_eq_true, decide_eq_true_eq, bne_iff_ne, ne_eq] at hk
        rcases hk with hk | hk
        · omega
        · omega
      refine ⟨?_, ?_, ?_⟩
      · rw [List.pairwise_append]
        exact ⟨h1, by simp, fun x hx y hy => by rw [List.mem_singleton.1 hy]; exact hlt x hx⟩
      · intro x hx
        refine ⟨by omega, ?_⟩
        rw [Nat.add_sub_cancel]
        rcases List.mem_append.1 hx with hx | hx
        · have := hlt x hx; omega
        · rw [List.mem_singleton.1 hx]; exact Int.le_refl _
      · intro x
        rw [List.mem_append, h3, List.mem_singleton]
        constructor
        · rintro (⟨j, hj, e⟩ | e)
          · exact ⟨j, by omega, e⟩
          · exact ⟨m, by omega, e.symm⟩
        · rintro ⟨j, hj, e⟩
          by_cases hjm : j = m
          · subst hjm; exact .inr e.symm
          · exact .inl ⟨j, by omega, e⟩
    | false =>
      simp only [Bool.false_eq_true, if_false, List.append_nil]
      have h0 : 0 < m := by
        rcases Nat.eq_zero_or_pos m with e | e
        · subst e; simp [Lib.keeps] at hk
        · exact e
      have hkm : l.toArray[m]! = l.toArray[m - 1]! := by
        by_cases e : l.toArray[m]! = l.toArray[m - 1]!
        · exact e
        · rw [Lib.keeps_pos e] at hk; cases hk
      refine ⟨h1, fun x hx => ⟨by omega, ?_⟩, ?_⟩
      · have := (h2 x hx).2; have := hle h0; rw [Nat.add_sub_cancel]; omega
      · intro x
        rw [h3]
        constructor
        · rintro ⟨j, hj, e⟩; exact ⟨j, by omega, e⟩
        · rintro ⟨j, hj, e⟩
          by_cases hjm : j = m
          · subst hjm
            exact ⟨j - 1, by omega, by rw [← e]; exact hkm.symm⟩
          · exact ⟨j, by omega, e⟩
theorem uniq_spec (l : List Int) : (uniq l).Pairwise (· < ·) ∧ ∀ x, x ∈ uniq l ↔ x ∈ l := by
  have hs : (l.mergeSort fun x y => decide (x ≤ y)).Pairwise (· ≤ ·) := by
    have := List.pairwise_mergeSort (le := fun x y : Int => decide (x ≤ y)) (fun a b c => by simp; omega) (fun a b => by simp; omega) l
    exact this.imp (by intro a b h; simpa using h)
  obtain ⟨h1, -, h3⟩ := compact_sorted hs _ (Nat.le_refl _)
  refine ⟨h1, fun x => ?_⟩
  show x ∈ Lib.compactUpTo _ _ ↔ _
  rw [h3, ← List.mem_mergeSort (le := fun x y : Int => decide (x ≤ y)) (l := l)]
  constructor
  · rintro ⟨j, hj, rfl⟩
    rw [getElem!_pos _ j (by simpa using hj)]
    simp
  · intro hx
    obtain ⟨j, hj, e⟩ := List.getElem_of_mem hx
    exact ⟨j, hj, by rw [getElem!_pos _ j (by simpa using hj)]; simpa using e⟩
theorem strict_unique : ∀ {a b : List Int}, a.Pairwise (· < ·) → b.Pairwise (· < ·) → (∀ x, x ∈ a ↔ x ∈ b) → a = b
  | [], [], _, _, _ => rfl
  | [], y :: b, _, _, h => by have := (h y).2 (by simp); simp at this
  | x :: a, [], _, _, h => by have := (h x).1 (by simp); simp at this
  | x :: a, y :: b, ha, hb, h => by
    obtain ⟨ha1, ha2⟩ := List.pairwise_cons.1 ha
    obtain ⟨hb1, hb2⟩ := List.pairwise_cons.1 hb
    have e : x = y := by
      rcases List.mem_cons.1 ((h x).1 (by simp)) with e | hx
      · exact e
      · rcases List.mem_cons.1 ((h y).2 (by simp)) with e | hy
        · exact e.symm
        · have := ha1 y hy; have := hb1 x hx; omega
    subst e
    congr 1
    refine strict_unique ha2 hb2 fun z => ?_
    have hz := h z
    simp only [List.mem_cons] at hz
    constructor
    · intro hm
      rcases hz.1 (.inr hm) with e | hm2
      · have := ha1 z hm; omega
      · exact hm2
    · intro hm
      rcases hz.2 (.inr hm) with e | hm2
      · have := hb1 z hm; omega
      · exact hm2
theorem uniq_eq {l m : List Int} (hm : m.Pairwise (· < ·)) (h : ∀ x, x ∈ l ↔ x ∈ m) : uniq l = m :=
  strict_unique (uniq_spec l).1 hm fun x => by rw [(uniq_spec l).2, h]
theorem entries_six : entries sixC = [0, 4, 7] := uniq_eq (by decide) (by
  intro x
  simp [entL, sixC, sixD, De.places]
  try omega)
end Go.Proofs.YtlaepkmnbbgbcaaGreatDoor
/- Entries. -/
namespace Go.Proofs.YtlaepkmnbbgbcaaGreatDoor
open Go.RowKit Go.Instr Go.Sort
set_option linter.unusedVariables false
set_option linter.unusedSimpArgs false
attribute [local go_sem] Oper.semAt_some

theorem entries1_any (x : Int) (w : World) : Calls Tryz.prog 89 (#[.int .i64 x] ++ #[]) w fun e w' => e = .returned (.bool (decide (x < 0))) ∧ ∃ q, w' = w.drewN q := by
  show Calls Tryz.prog 89 #[.int .i64 x] w _
  go_enter Tryz.func89, Tryz.ntmps89
  go_wp2
  go_ret
  exact ⟨rfl, 0, rfl⟩
theorem enters_entries1 (args : Array Value) (w : World) : (callFunc 89 args).run Tryz.prog w = .ok (.enter 89 args) w := enters_of Tryz.func89 (by kernel_rfl) rfl args w
theorem RdL.lbCells {w : World} {ad : Addr} {n cp : Nat} {l : List (Int × Int)} (h : RdL encL w (.slice (some ad) n cp) l) {k : Nat} {x : Int × Int} (hx : l[k]? = some x) {A : Addr} (hA : ad.add (k * 2) = A) :
    w.cell? A = some (.int .i64 x.1) ∧ w.cell? ⟨A.block, A.off + 1, none⟩ = some (.int .i64 x.2) := by
  subst hA
  have g := fun j hj => h.at encL_len hx j hj
  exact ⟨by have := g 0 (by omega); rw [Addr.add_zero'] at this; exact this.trans rfl, (g 1 (by omega)).trans rfl⟩
/-- A block of ints that has just been built reads as a list. -/
theorem Blk.rdI {w : World} {b : Nat} {l : List Int} (h : Blk w b (l.map (Value.int .i64)).toArray 3) : RdL encI w (.slice (some ⟨b, 0, none⟩) l.length l.length) l := by
  refine ⟨_, _, rfl, Nat.le_refl _, fun e => (by cases e), fun ad had j u hu => ?_⟩
  injection had with had; subst had
  have ea : (⟨b, 0, none⟩ : Addr).add j = ⟨b, j, none⟩ := by unfold Addr.add; split <;> simp_all
  rw [ea, h.cell j]
  rw [encI_flat] at hu
  simpa using hu
theorem Blk.ownI {w : World} {b base : Nat} {l : List Int} (h : Blk w b (l.map (Value.int .i64)).toArray 3) (hb : base ≤ b) (hl : l.length ≤ 1000000) : OwnI w base (.slice (some ⟨b, 0, none⟩) l.length l.length) l :=
  ⟨by simp, .inr ⟨b, l.length, _, rfl, hb, h, Nat.le_refl _, by unfold maxLen; omega, by simp, by rw [Nat.mul_one]; exact List.take_of_length_le (by simp)⟩⟩

theorem OwnI.low {w : World} {base base' : Nat} {v : Value} {l : List Int} (h : OwnI w base v l) (hb : base' ≤ base) : OwnI w base' v l := by
  rcases h.2 with ⟨e, hl⟩ | ⟨g, cap, cur, e, h1, h2⟩
  · exact ⟨h.1, .inl ⟨e, hl⟩⟩
  · exact ⟨h.1, .inr ⟨g, cap, cur, e, by omega, h2⟩⟩
theorem pairs_len (l : List (Int × Int)) : (l.flatMap fun l => [l.1, l.2]).length = 2 * l.length := by
  induction l with
  | nil => rfl
  | cons y r ih =>
    rw [List.flatMap_cons, List.length_append, ih]
    show 2 + _ = 2 * (r.length + 1)
    omega
/-- What Entries answers. -/
def EntR (w : World) (c : Co) (e : Ending) (w' : World) : Prop :=
  if (chk c).1 = 0 then ∃ v, e = .returned (.tuple #[v, .int .i64 0]) ∧ OwnI w' w.heap.size v (entries c) ∧ Ex w w' else e = .returned (.tuple #[.slice none 0 0, .int .i64 1]) ∧ Ex w w'
theorem Keeps.ex {w0 w w' : World} {base : Nat} {v : Value} {l : List Int} (h : Ex w0 w) (ho : OwnI w base v l) (hb : w0.heap.size ≤ base) (hx : ExV v w w') : Ex w0 w' :=
  h.trans' hx fun i hi e => by
    rcases ho.form with ⟨rfl, -⟩ | ⟨g, cap, rfl, hg, -⟩
    · cases e
    · have : g = i := by injection e
      omega
set_option maxRecDepth 100000 in
set_option maxHeartbeats 8000000 in
theorem Entries_any {w : World} {dv lv tv rv iv : Value} {c : Co} {xs : List DeV} (h : RdCo w dv lv tv rv iv c xs) (hb : Big c) :
    Calls Tryz.prog 37 #[codeV dv lv tv rv iv] w (EntR w c) := by
  obtain ⟨W1, hW1⟩ : ∃ W1, w.alloc (.cells #[dv, lv, tv, rv, iv] 28) = W1 := ⟨_, rfl⟩
  obtain ⟨b0, hb0⟩ : ∃ b0, w.heap.size = b0 := ⟨_, rfl⟩
  have hX1 : Ex w W1 := by rw [← hW1]; exact (Keeps.refl _ w).alloc _
  have hB0 : Blk W1 b0 #[dv, lv, tv, rv, iv] 28 := by rw [← hW1, ← hb0]; exact Blk.new w _ _
  have hs1 : W1.heap.size = b0 + 1 := by rw [← hW1, ← hb0, World.size_alloc]
  have hwf := wellFormed_any (h.ext hX1) hb
  obtain ⟨da, dc, rfl, -, hd1, -⟩ := id h.ds
  obtain ⟨la, lc, rfl, -, hl1, -⟩ := id h.ls
  obtain ⟨ta, tc, rfl, -⟩ := id h.ts
  obtain ⟨ra, rc, rfl, -⟩ := id h.rs
  obtain ⟨ia, ic, rfl, -⟩ := id h.is
  have HF0 : ∀ V, Ex W1 V → Hid (V.cell? ⟨b0, 0, none⟩ = some (.slice da xs.length dc) ∧ V.cell? ⟨b0, 1, none⟩ = some (.slice la c.labels.length lc) ∧ V.cell? ⟨b0, 2, none⟩ = some (.slice ta c.texts.length tc) ∧ V.cell? ⟨b0, 3, none⟩ = some (.slice ra c.reals.length rc) ∧ V.cell? ⟨b0, 4, none⟩ = some (.slice ia c.instrs.length ic)) := fun V hV =>
    ⟨((hV.blk hB0 id).cell 0).trans rfl, ((hV.blk hB0 id).cell 1).trans rfl, ((hV.blk hB0 id).cell 2).trans rfl, ((hV.blk hB0 id).cell 3).trans rfl, ((hV.blk hB0 id).cell 4).trans rfl⟩
  have hxl := h.len
  have l1 : xs.length ≤ 1000000 := by have := hb.d; omega
  have l2 := hb.l
  unfold codeV at hwf ⊢
  have H := Lib.hid h; have HX1 := Lib.hid hX1; have HW1 := Lib.hid hW1; have Hb0 := Lib.hid hb0; have Hs1 := Lib.hid hs1; have HWF := Lib.hid hwf; have Hd1 := Lib.hid hd1; have Hl1 := Lib.hid hl1; have HN := Lib.hid hxl
  clear h hX1 hB0 hW1 hb0 hs1 hwf hb hd1 hl1 hxl
  generalize hM : EntR w c = M
  have HM := Lib.hid hM
  clear hM
  obtain ⟨x0, x1, x2, x3, x4⟩ := (HF0 W1 (Keeps.refl _ _)).out
  go_enter Tryz.func37, Tryz.ntmps37
  go_upto_region 1 with fail
  rw [HW1.out]
  try rw [Hb0.out]
  by_cases hg : (chk c).1 = 0
  case neg =>
    rw [decide_eq_false hg] at HWF
    go_wp2_with (go_at_call 46; refine HWF.out.mono ?_; rintro e w2 ⟨rfl, hx⟩; have HX := Lib.hid (HX1.out.trans hx); clear hx)
    rw [← HM.out]
    unfold EntR
    rw [if_neg hg]
    exact ⟨rfl, HX.out⟩
  rw [decide_eq_true hg] at HWF
  have HG := Lib.hid hg
  clear hg
  go_upto_region 3 with (go_at_call 46; refine HWF.out.mono ?_; rintro e w2 ⟨rfl, hx⟩; have HX2 := Lib.hid hx; clear hx)
  clear x0 x1 x2 x3 x4
  obtain ⟨x0, x1, x2, x3, x4⟩ := (HF0 w2 HX2.out).out
  go_upto_region 4 with fail
  obtain ⟨W3, hW3⟩ : ∃ W3, w2.alloc (.cells #[.int .i64 0] 3) = W3 := ⟨_, rfl⟩
  obtain ⟨b3, hb3⟩ : ∃ b3, w2.heap.size = b3 := ⟨_, rfl⟩
  have hX3 : Ex W1 W3 := by rw [← hW3]; exact HX2.out.alloc _
  have hB3 : Blk W3 b3 #[.int .i64 0] 3 := by rw [← hW3, ← hb3]; exact Blk.new w2 _ _
  have hle3 : b0 + 1 ≤ b3 := by have := HX2.out.size; rw [Hs1.out] at this; omega
  have HO3 : Hid (OwnI W3 (b0 + 1) (.slice (some ⟨b3, 0, none⟩) 1 1) [0]) := Lib.hid (Blk.ownI (l := [0]) hB3 hle3 (by decide))
  rw [hW3, hb3]
  have HX3 := Lib.hid hX3
  clear hW3 hb3 hX3 hB3 hle3 x0 x1 x2 x3 x4
  obtain ⟨x0, x1, x2, x3, x4⟩ := (HF0 W3 HX3.out).out
  go_wp2_with fail
  clear x0 x1 x2 x3 x4
  go_loopw [4, 16] (fun v s wr => ∃ k : Nat, k ≤ xs.length ∧ s = .int .i64 k ∧ Hid (OwnI wr (b0 + 1) v (0 :: (c.descs.take k).flatMap De.places)) ∧ Hid (Ex W1 wr)) (fun v s wr => xs.length - (intOf s).toNat)
  case atStart => exact ⟨0, Nat.zero_le _, rfl, HO3, HX3⟩
  case round =>
    obtain ⟨k, hk, rfl, HO, HX⟩ := hrel
    obtain ⟨x0, x1, x2, x3, x4⟩ := (HF0 wr HX.out).out
    by_cases hlt : k < xs.length
    case pos =>
      obtain ⟨ad, rfl⟩ : ∃ ad, da = some ad := by
        cases da with
        | none => have := Hd1.out rfl; subst this; simp at hlt
        | some ad => exact ⟨ad, rfl⟩
      obtain ⟨x, hx⟩ : ∃ x, xs[k]? = some x := ⟨_, List.getElem?_eq_getElem hlt⟩
      have hxd : c.descs[k]? = some x.d := by rw [← H.out.eq, List.getElem?_map, hx]; rfl
      have hD := H.out.de x (List.mem_of_getElem? hx)
      obtain ⟨A, hA⟩ : ∃ A, ad.add (k * 11) = A := ⟨_, rfl⟩
      obtain ⟨e0, e1, e2, e3, e4, e5, e6, e7, e8, e9, e10⟩ := (H.out.ds.ext (HX1.out.trans HX.out)).deCells hx hA
      obtain ⟨d, cv, uv, vv⟩ := x
      obtain ⟨ca, cc, ec, -⟩ := id hD.chain
      obtain ⟨ua, uc, eu, -⟩ := id hD.up
      obtain ⟨va, vc, ev, -⟩ := id hD.virts
      simp only at ec eu ev hxd e0 e1 e2 e3 e4 e5 e6 e7 e8 e9 e10
      subst ec; subst eu; subst ev
      obtain ⟨W4, hW4⟩ : ∃ W4, wr.alloc (.cells (encD ⟨d, .slice ca d.chain.length cc, .slice ua d.up.length uc, .slice va d.virts.length vc⟩).toArray 50) = W4 := ⟨_, rfl⟩
      obtain ⟨b4, hb4⟩ : ∃ b4, wr.heap.size = b4 := ⟨_, rfl⟩
      have hX4 : Ex wr W4 := by rw [← hW4]; exact (Keeps.refl _ wr).alloc _
      have hB4 : Blk W4 b4 (encD ⟨d, .slice ca d.chain.length cc, .slice ua d.up.length uc, .slice va d.virts.length vc⟩).toArray 50 := by rw [← hW4, ← hb4]; exact Blk.new wr _ _
      dsimp only [encD] at hW4 hB4
      have hs4 : W4.heap.size = b4 + 1 := by rw [← hW4, World.size_alloc, hb4]
      obtain ⟨W5, hW5⟩ : ∃ W5, W4.alloc (.cells #[.int .i64 d.init, .int .i64 d.enter, .int .i64 d.do_, .int .i64 d.exit] 3) = W5 := ⟨_, rfl⟩
      have hX5 : Ex wr W5 := by rw [← hW5]; exact hX4.alloc _
      have hB5 : Blk W5 (b4 + 1) #[.int .i64 d.init, .int .i64 d.enter, .int .i64 d.do_, .int .i64 d.exit] 3 := by rw [← hW5, ← hs4]; exact Blk.new W4 _ _
      have hR5 := Blk.rdI (l := d.places) hB5
      have HO5 : Hid (OwnI W5 (b0 + 1) u4 (0 :: (c.descs.take k).flatMap De.places)) := Lib.hid (HO.out.kept hX5 fun _ _ => id)
      have hlen5 : (0 :: (c.descs.take k).flatMap De.places).length ≤ 1 + 4 * k := by
        have : ∀ l : List De, (l.flatMap De.places).length = 4 * l.length := by
          intro l; induction l with
          | nil => rfl
          | cons y r ih => rw [List.flatMap_cons, List.length_append, ih, List.length_cons]; show 4 + _ = _; omega
        rw [List.length_cons, this, List.length_take]; omega
      have y6 : W4.cell? ⟨b4, 6, none⟩ = some (.int .i64 d.init) := (hB4.cell 6).trans rfl
      have y7 : W4.cell? ⟨b4, 7, none⟩ = some (.int .i64 d.enter) := (hB4.cell 7).trans rfl
      have y8 : W4.cell? ⟨b4, 8, none⟩ = some (.int .i64 d.do_) := (hB4.cell 8).trans rfl
      have y9 : W4.cell? ⟨b4, 9, none⟩ = some (.int .i64 d.exit) := (hB4.cell 9).trans rfl
      have HX5 := Lib.hid (HX.out.trans hX5); have HR5 := Lib.hid hR5; have HW4 := Lib.hid hW4; have HW5 := Lib.hid hW5; have Hb4 := Lib.hid hb4; have Hs4 := Lib.hid hs4; have Hxd := Lib.hid hxd; have HL5 := Lib.hid hlen5
      clear hX4 hB4 hs4 hX5 hB5 hR5 hW4 hW5 hb4 hxd hx hD hlen5
      go_upto_region 7 with fail
      rw [HW4.out]
      try rw [Hb4.out]
      clear e0 e1 e2 e3 e4 e5 e6 e7 e8 e9 e10 x0 x1 x2 x3 x4
      go_wp2_with (at_builtin; refine (fun h => h trivial : (True → _) → _) ?_)
      intro _
      rw [HW5.out]
      try rw [Hs4.out]
      refine wpList_appI rfl _ _ rfl (b0 + 1) _ _ rfl HO5.out _ d.places rfl HR5.out (by have := HL5.out; show _ + 4 ≤ _; omega) (by have := HX5.out.size; rw [Hs1.out] at this; exact this) ?_
      intro v6 w6 ho6 hx6 _
      have HO6 : Hid (OwnI w6 (b0 + 1) v6 (0 :: (c.descs.take (k + 1)).flatMap De.places)) := Lib.hid (by
        rw [List.take_add_one, Hxd.out, List.flatMap_append]
        simpa using ho6)
      have HX6 : Hid (Ex W1 w6) := Lib.hid (HX5.out.ex HO5.out (by rw [Hs1.out]; omega) hx6)
      clear ho6 hx6 y6 y7 y8 y9
      go_wp2_with fail
      go_roundw
      case rel => exact ⟨k + 1, by omega, by go_num, HO6, HX6⟩
      case measure => simp [intOf]; omega
    case neg =>
      have : k = xs.length := by omega
      subst this
      go_wp2_with fail
      clear x0 x1 x2 x3 x4
      have hfull : c.descs.take xs.length = c.descs := by rw [HN.out]; exact List.take_length
      rw [hfull] at HO
      have HDL : Hid ((0 :: c.descs.flatMap De.places).length ≤ 1 + 4 * 1000000) := Lib.hid (by
        have : ∀ l : List De, (l.flatMap De.places).length = 4 * l.length := by
          intro l; induction l with
          | nil => rfl
          | cons y r ih => rw [List.flatMap_cons, List.length_append, ih, List.length_cons]; show 4 + _ = _; omega
        rw [List.length_cons, this, ← HN.out]; omega)
      clear hfull
      go_loopw [4, 35] (fun v s wq => ∃ k : Nat, k ≤ c.labels.length ∧ s = .int .i64 k ∧ Hid (OwnI wq (b0 + 1) v (0 :: c.descs.flatMap De.places ++ (c.labels.take k).flatMap fun l => [l.1, l.2])) ∧ Hid (Ex W1 wq)) (fun v s wq => c.labels.length - (intOf s).toNat)
      case atStart => exact ⟨0, Nat.zero_le _, rfl, by simpa using HO, HX⟩
      case round =>
        obtain ⟨k, hk, rfl, HO, HX⟩ := hrel
        obtain ⟨x0, x1, x2, x3, x4⟩ := (HF0 wr HX.out).out
        by_cases hlt : k < c.labels.length
        case pos =>
          obtain ⟨lad, rfl⟩ : ∃ ad, la = some ad := by
            cases la with
            | none => have := Hl1.out rfl; rw [this] at hlt; simp at hlt
            | some ad => exact ⟨ad, rfl⟩
          obtain ⟨l, hx⟩ : ∃ l, c.labels[k]? = some l := ⟨_, List.getElem?_eq_getElem hlt⟩
          obtain ⟨A, hA⟩ : ∃ A, lad.add (k * 2) = A := ⟨_, rfl⟩
          obtain ⟨e0, e1⟩ := (H.out.ls.ext (HX1.out.trans HX.out)).lbCells hx hA
          obtain ⟨W4, hW4⟩ : ∃ W4, wr.alloc (.cells #[.int .i64 l.1, .int .i64 l.2] 90) = W4 := ⟨_, rfl⟩
          obtain ⟨b4, hb4⟩ : ∃ b4, wr.heap.size = b4 := ⟨_, rfl⟩
          have hX4 : Ex wr W4 := by rw [← hW4]; exact (Keeps.refl _ wr).alloc _
          have hB4 : Blk W4 b4 #[.int .i64 l.1, .int .i64 l.2] 90 := by rw [← hW4, ← hb4]; exact Blk.new wr _ _
          have hs4 : W4.heap.size = b4 + 1 := by rw [← hW4, World.size_alloc, hb4]
          obtain ⟨W5, hW5⟩ : ∃ W5, W4.alloc (.cells #[.int .i64 l.1, .int .i64 l.2] 3) = W5 := ⟨_, rfl⟩
          have hX5 : Ex wr W5 := by rw [← hW5]; exact hX4.alloc _
          have hB5 : Blk W5 (b4 + 1) #[.int .i64 l.1, .int .i64 l.2] 3 := by rw [← hW5, ← hs4]; exact Blk.new W4 _ _
          have hR5 := Blk.rdI (l := [l.1, l.2]) hB5
          have HO5 : Hid (OwnI W5 (b0 + 1) u4 (0 :: c.descs.flatMap De.places ++ (c.labels.take k).flatMap fun l => [l.1, l.2])) := Lib.hid (HO.out.kept hX5 fun _ _ => id)
          have hlen5 : (0 :: c.descs.flatMap De.places ++ (c.labels.take k).flatMap fun l => [l.1, l.2]).length ≤ 1 + 4 * 1000000 + 2 * k := by
            have := pairs_len
            have h9 := HDL.out
            rw [List.length_append, this, List.length_take]; omega
          have y0 : W4.cell? ⟨b4, 0, none⟩ = some (.int .i64 l.1) := (hB4.cell 0).trans rfl
          have y1 : W4.cell? ⟨b4, 1, none⟩ = some (.int .i64 l.2) := (hB4.cell 1).trans rfl
          have HX5 := Lib.hid (HX.out.trans hX5); have HR5 := Lib.hid hR5; have HW4 := Lib.hid hW4; have HW5 := Lib.hid hW5; have Hb4 := Lib.hid hb4; have Hs4 := Lib.hid hs4; have Hxd := Lib.hid hx; have HL5 := Lib.hid hlen5
          clear hX4 hB4 hs4 hX5 hB5 hR5 hW4 hW5 hb4 hx hlen5
          go_upto_region 12 with fail
          rw [HW4.out]
          try rw [Hb4.out]
          clear e0 e1 x0 x1 x2 x3 x4
          go_wp2_with (at_builtin; refine (fun h => h trivial : (True → _) → _) ?_)
          intro _
          rw [HW5.out]
          try rw [Hs4.out]
          refine wpList_appI rfl _ _ rfl (b0 + 1) _ _ rfl HO5.out _ [l.1, l.2] rfl HR5.out (by have := HL5.out; show _ + 2 ≤ _; omega) (by have := HX5.out.size; rw [Hs1.out] at this; exact this) ?_
          intro v6 w6 ho6 hx6 _
          have HO6 : Hid (OwnI w6 (b0 + 1) v6 (0 :: c.descs.flatMap De.places ++ (c.labels.take (k + 1)).flatMap fun l => [l.1, l.2])) := Lib.hid (by
            rw [List.take_add_one, Hxd.out, List.flatMap_append, ← List.append_assoc]
            simpa using ho6)
          have HX6 : Hid (Ex W1 w6) := Lib.hid (HX5.out.ex HO5.out (by rw [Hs1.out]; omega) hx6)
          clear ho6 hx6 y0 y1
          go_wp2_with fail
          go_roundw
          case rel => exact ⟨k + 1, by omega, by go_num, HO6, HX6⟩
          case measure => simp [intOf]; omega
        case neg =>
          have : k = c.labels.length := by omega
          subst this
          have hent : (0 :: c.descs.flatMap De.places ++ (c.labels.take c.labels.length).flatMap fun l => [l.1, l.2]) = entL c := by rw [List.take_length]; rfl
          rw [hent] at HO
          have HEL : Hid ((entL c).length ≤ 10000000) := Lib.hid (by
            have := pairs_len
            have h9 := HDL.out
            unfold entL
            rw [List.length_append, this]; omega)
          clear hent x0 x1 x2 x3 x4
          go_wp2_with fail
          refine (delI_any enters_entries1 HO.out (p := fun x => decide (x < 0)) (fun V x _ => entries1_any x V)).mono ?_
          rintro e w7 ⟨v7, rfl, ho7, hb7, hx7⟩
          have HO7 := Lib.hid ho7
          have HX7 : Hid (Ex W1 w7) := Lib.hid (HX.out.ex HO.out (by rw [Hs1.out]; omega) hx7)
          clear ho7 hb7 hx7
          go_wp2_with fail
          refine (sortI_any HO7.out (by have := HEL.out; have := List.length_filter_le (fun n => !decide (n < 0)) (entL c); omega)).mono ?_
          rintro e w8 ⟨rfl, ho8, hx8⟩
          have HO8 := Lib.hid ho8
          have HX8 : Hid (Ex W1 w8) := Lib.hid (HX7.out.ex HO7.out (by rw [Hs1.out]; omega) hx8)
          clear ho8 hx8
          go_wp2_with fail
          refine (compactI_any HO8.out).mono ?_
          rintro e w9 ⟨v9, rfl, ho9, hb9, hx9⟩
          have HO9 := Lib.hid ho9
          have HX9 : Hid (Ex W1 w9) := Lib.hid (HX8.out.ex HO8.out (by rw [Hs1.out]; omega) hx9)
          clear ho9 hb9 hx9
          go_wp2_with fail
          rw [← HM.out]
          unfold EntR
          rw [if_pos HG.out]
          refine ⟨v9, rfl, ?_, HX1.out.trans HX9.out⟩
          have h10 : OwnI w9 (b0 + 1) v9 (entries c) := HO9.out
          rw [Hb0.out]
          exact h10.low (by omega)
end Go.Proofs.YtlaepkmnbbgbcaaGreatDoor
/- The shelf's contracts for strings.Builder.String and strconv.Itoa, laid at this program (written by the kit's lay-shelf and lay-plain, cut down by wip/tools/prune.py). -/
namespace Go.Proofs.YtlaepkmnbbgbcaaGreatDoor
open Go.Shelf Go.RowKit Go.Lib
set_option linter.unusedVariables false

def Sh.lays169_ren : Go.Shelf.Ren := ⟨fun | 169 => 56 | n => n, fun | 70 => 97 | 9 => 9 | 0 => 0 | 72 => 100 | 37 => 98 | 127 => 149 | 3 => 3 | 5 => 5 | n => n, fun | n => n⟩
theorem Sh.lays169 : Go.Proofs.Lays.n169 Tryz.prog Sh.lays169_ren := {
  mixed := by kernel_rfl
  f169 := Tryz.func56.trans (congrArg some (by kernel_rfl))
  t0 := Tryz.underlying0
  a0 := Tryz.isAgg0
  z0 := Tryz.sizeOf0
  v0 := Tryz.zeroValue0
  t3 := Tryz.underlying3
  a3 := Tryz.isAgg3
  z3 := Tryz.sizeOf3
  v3 := Tryz.zeroValue3
  t9 := Tryz.underlying9
  a9 := Tryz.isAgg9
  z9 := Tryz.sizeOf9
  v9 := Tryz.zeroValue9
  t37 := Tryz.underlying98
  a37 := Tryz.isAgg98
  z37 := Tryz.sizeOf98
  v37 := Tryz.zeroValue98
  t70 := Tryz.underlying97
  a70 := Tryz.isAgg97
  z70 := Tryz.sizeOf97
  v70 := Tryz.zeroValue97
  t72 := Tryz.underlying100
  a72 := Tryz.isAgg100
  z72 := Tryz.sizeOf100
  v72 := Tryz.zeroValue100
  t127 := Tryz.underlying149
  a127 := Tryz.isAgg149
  z127 := Tryz.sizeOf149
  v127 := Tryz.zeroValue149 }
theorem Sh.Builder_Extra_169 : Builder.Extra Tryz.prog Sh.lays169_ren := {
  sizeBuilder := by kernel_rfl
  liesBuilder := by kernel_rfl
  t5 := Tryz.underlying5
  a5 := Tryz.isAgg5
  z5 := Tryz.sizeOf5
  v5 := Tryz.zeroValue5
  infoByte := by kernel_rfl
  cellsByte := by kernel_rfl
  sizeByte := by kernel_rfl
  neB5 := by decide }
open Go.RowKit in
theorem Sh.Builder_String_any_k (B b : Nat) (l : List UInt8) (w : World) (h : Lib.IsBuilderF 100 5 B b (Lib.byteCells l) w) (hBw : B ≤ w.heap.size) :
    Calls Tryz.prog 56 #[.pointer (some ⟨b, 0, none⟩)] w fun e w' => e = .returned (.string ⟨l.toArray⟩) ∧ (Lib.IsBuilderF 100 5 B b (Lib.byteCells l) w' ∧ Below B w w' ∧ Lib.OthersKept 5 (some b) w w') := Any.Builder_String_any_k Sh.lays169 Sh.Builder_Extra_169 B b l w h hBw
def Sh.laysM171_ren : Go.Shelf.Ren := ⟨fun | 171 => 134 | 243 => 169 | 246 => 202 | 283 => 224 | 284 => 225 | 285 => 226 | 286 => 227 | 129 => 168 | 317 => 241 | 318 => 242 | 319 => 243 | 320 => 244 | 337 => 254 | 338 => 255 | n => n, fun | 3 => 3 | 9 => 9 | 2 => 2 | 4 => 4 | 171 => 266 | 0 => 0 | 53 => 211 | 37 => 98 | 5 => 5 | 173 => 268 | 212 => 279 | 51 => 209 | 20 => 20 | 213 => 280 | 46 => 177 | 232 => 296 | 233 => 297 | n => n, fun | 17 => 1 | 18 => 6 | 19 => 7 | n => n⟩
theorem Sh.laysM171 : Go.Proofs.LaysM.n171 Tryz.prog Sh.laysM171_ren := {
  mixed := by kernel_rfl
  f129 := Tryz.func168.trans (congrArg some (by kernel_rfl))
  f171 := Tryz.func134.trans (congrArg some (by kernel_rfl))
  f243 := Tryz.func169.trans (congrArg some (by kernel_rfl))
  f246 := Tryz.func202.trans (congrArg some (by kernel_rfl))
  f283 := Tryz.func224.trans (congrArg some (by kernel_rfl))
  f284 := Tryz.func225.trans (congrArg some (by kernel_rfl))
  f285 := Tryz.func226.trans (congrArg some (by kernel_rfl))
  f286 := Tryz.func227.trans (congrArg some (by kernel_rfl))
  f317 := Tryz.func241.trans (congrArg some (by kernel_rfl))
  f318 := Tryz.func242.trans (congrArg some (by kernel_rfl))
  f319 := Tryz.func243.trans (congrArg some (by kernel_rfl))
  f320 := Tryz.func244.trans (congrArg some (by kernel_rfl))
  f337 := Tryz.func254.trans (congrArg some (by kernel_rfl))
  f338 := Tryz.func255.trans (congrArg some (by kernel_rfl))
  t0 := Tryz.underlying0
  a0 := Tryz.isAgg0
  z0 := Tryz.sizeOf0
  v0 := Tryz.zeroValue0
  t2 := Tryz.underlying2
  a2 := Tryz.isAgg2
  z2 := Tryz.sizeOf2
  v2 := Tryz.zeroValue2
  t3 := Tryz.underlying3
  a3 := Tryz.isAgg3
  z3 := Tryz.sizeOf3
  v3 := Tryz.zeroValue3
  t4 := Tryz.underlying4
  a4 := Tryz.isAgg4
  z4 := Tryz.sizeOf4
  v4 := Tryz.zeroValue4
  t5 := Tryz.underlying5
  a5 := Tryz.isAgg5
  z5 := Tryz.sizeOf5
  v5 := Tryz.zeroValue5
  t9 := Tryz.underlying9
  a9 := Tryz.isAgg9
  z9 := Tryz.sizeOf9
  v9 := Tryz.zeroValue9
  t20 := Tryz.underlying20
  a20 := Tryz.isAgg20
  z20 := Tryz.sizeOf20
  v20 := Tryz.zeroValue20
  t37 := Tryz.underlying98
  a37 := Tryz.isAgg98
  z37 := Tryz.sizeOf98
  v37 := Tryz.zeroValue98
  t46 := Tryz.underlying177
  a46 := Tryz.isAgg177
  z46 := Tryz.sizeOf177
  v46 := Tryz.zeroValue177
  t51 := Tryz.underlying209
  a51 := Tryz.isAgg209
  z51 := Tryz.sizeOf209
  v51 := Tryz.zeroValue209
  t53 := Tryz.underlying211
  a53 := Tryz.isAgg211
  z53 := Tryz.sizeOf211
  v53 := Tryz.zeroValue211
  t171 := Tryz.underlying266
  a171 := Tryz.isAgg266
  z171 := Tryz.sizeOf266
  v171 := Tryz.zeroValue266
  t173 := Tryz.underlying268
  a173 := Tryz.isAgg268
  z173 := Tryz.sizeOf268
  v173 := Tryz.zeroValue268
  t212 := Tryz.underlying279
  a212 := Tryz.isAgg279
  z212 := Tryz.sizeOf279
  v212 := Tryz.zeroValue279
  t213 := Tryz.underlying280
  a213 := Tryz.isAgg280
  z213 := Tryz.sizeOf280
  t232 := Tryz.underlying296
  a232 := Tryz.isAgg296
  z232 := Tryz.sizeOf296
  v232 := Tryz.zeroValue296
  t233 := Tryz.underlying297
  a233 := Tryz.isAgg297
  z233 := Tryz.sizeOf297
  v233 := Tryz.zeroValue297
  g17 := by kernel_rfl
  g18 := by kernel_rfl
  g19 := by kernel_rfl
  i0 := by kernel_rfl
  i2 := by kernel_rfl
  i3 := by kernel_rfl
  i4 := by kernel_rfl
  i5 := by kernel_rfl
  i9 := by kernel_rfl
  i20 := by kernel_rfl
  i37 := by kernel_rfl
  i46 := by kernel_rfl
  i51 := by kernel_rfl
  i53 := by kernel_rfl
  i171 := by kernel_rfl
  i173 := by kernel_rfl
  i212 := by kernel_rfl
  i232 := by kernel_rfl
  i233 := by kernel_rfl
  m17 := by kernel_rfl
  m18 := by kernel_rfl
  m19 := by kernel_rfl }
open Go.RowKit Go.Sort Go.Lib in
theorem Sh.strconv_Itoa (n : Int) (h0 : -9223372036854775808 ≤ n) (h1 : n ≤ 9223372036854775807) (w : World) (htab : Lib.TabIs Tryz.prog w "internal/strconv.uint64pow10" .u64 Lib.pow10Tab) :
    Calls Tryz.prog 134 #[.int .i64 n] w fun e w' => e = .returned (.string ⟨(Lib.itoa n).toArray⟩) ∧ ∃ k os, w' = grow (w.drewN k) os := Any.strconv_Itoa Sh.laysM171 n h0 h1 w htab
def Sh.lays171_ren : Go.Shelf.Ren := ⟨fun | 171 => 134 | 243 => 169 | 246 => 202 | 283 => 224 | 284 => 225 | 285 => 226 | 286 => 227 | 129 => 168 | 317 => 241 | 318 => 242 | 319 => 243 | 320 => 244 | 337 => 254 | 338 => 255 | n => n, fun | 3 => 3 | 9 => 9 | 2 => 2 | 4 => 4 | 171 => 266 | 0 => 0 | 53 => 211 | 37 => 98 | 5 => 5 | 173 => 268 | 212 => 279 | 51 => 209 | 20 => 20 | 213 => 280 | 46 => 177 | 232 => 296 | 233 => 297 | n => n, fun | 17 => 1 | 18 => 6 | 19 => 7 | n => n⟩
theorem Sh.lays171 : Go.Proofs.Lays.n171 Tryz.prog Sh.lays171_ren := {
  mixed := by kernel_rfl
  f129 := Tryz.func168.trans (congrArg some (by kernel_rfl))
  f171 := Tryz.func134.trans (congrArg some (by kernel_rfl))
  f243 := Tryz.func169.trans (congrArg some (by kernel_rfl))
  f246 := Tryz.func202.trans (congrArg some (by kernel_rfl))
  f283 := Tryz.func224.trans (congrArg some (by kernel_rfl))
  f284 := Tryz.func225.trans (congrArg some (by kernel_rfl))
  f285 := Tryz.func226.trans (congrArg some (by kernel_rfl))
  f286 := Tryz.func227.trans (congrArg some (by kernel_rfl))
  f317 := Tryz.func241.trans (congrArg some (by kernel_rfl))
  f318 := Tryz.func242.trans (congrArg some (by kernel_rfl))
  f319 := Tryz.func243.trans (congrArg some (by kernel_rfl))
  f320 := Tryz.func244.trans (congrArg some (by kernel_rfl))
  f337 := Tryz.func254.trans (congrArg some (by kernel_rfl))
  f338 := Tryz.func255.trans (congrArg some (by kernel_rfl))
  t0 := Tryz.underlying0
  a0 := Tryz.isAgg0
  z0 := Tryz.sizeOf0
  v0 := Tryz.zeroValue0
  t2 := Tryz.underlying2
  a2 := Tryz.isAgg2
  z2 := Tryz.sizeOf2
  v2 := Tryz.zeroValue2
  t3 := Tryz.underlying3
  a3 := Tryz.isAgg3
  z3 := Tryz.sizeOf3
  v3 := Tryz.zeroValue3
  t4 := Tryz.underlying4
  a4 := Tryz.isAgg4
  z4 := Tryz.sizeOf4
  v4 := Tryz.zeroValue4
  t5 := Tryz.underlying5
  a5 := Tryz.isAgg5
  z5 := Tryz.sizeOf5
  v5 := Tryz.zeroValue5
  t9 := Tryz.underlying9
  a9 := Tryz.isAgg9
  z9 := Tryz.sizeOf9
  v9 := Tryz.zeroValue9
  t20 := Tryz.underlying20
  a20 := Tryz.isAgg20
  z20 := Tryz.sizeOf20
  v20 := Tryz.zeroValue20
  t37 := Tryz.underlying98
  a37 := Tryz.isAgg98
  z37 := Tryz.sizeOf98
  v37 := Tryz.zeroValue98
  t46 := Tryz.underlying177
  a46 := Tryz.isAgg177
  z46 := Tryz.sizeOf177
  v46 := Tryz.zeroValue177
  t51 := Tryz.underlying209
  a51 := Tryz.isAgg209
  z51 := Tryz.sizeOf209
  v51 := Tryz.zeroValue209
  t53 := Tryz.underlying211
  a53 := Tryz.isAgg211
  z53 := Tryz.sizeOf211
  v53 := Tryz.zeroValue211
  t171 := Tryz.underlying266
  a171 := Tryz.isAgg266
  z171 := Tryz.sizeOf266
  v171 := Tryz.zeroValue266
  t173 := Tryz.underlying268
  a173 := Tryz.isAgg268
  z173 := Tryz.sizeOf268
  v173 := Tryz.zeroValue268
  t212 := Tryz.underlying279
  a212 := Tryz.isAgg279
  z212 := Tryz.sizeOf279
  v212 := Tryz.zeroValue279
  t213 := Tryz.underlying280
  a213 := Tryz.isAgg280
  z213 := Tryz.sizeOf280
  t232 := Tryz.underlying296
  a232 := Tryz.isAgg296
  z232 := Tryz.sizeOf296
  v232 := Tryz.zeroValue296
  t233 := Tryz.underlying297
  a233 := Tryz.isAgg297
  z233 := Tryz.sizeOf297
  v233 := Tryz.zeroValue297
  g17 := by kernel_rfl
  g18 := by kernel_rfl
  g19 := by kernel_rfl }
open Go.RowKit Go.Sort Go.Lib in
theorem Sh.strconv_Itoa_small (i : Nat) (hi : i < 100) (w : World) :
    Calls Tryz.prog 134 #[.int .i64 i] w fun e w' => e = .returned (.string ⟨(Lib.decDigits i).toArray⟩) ∧ w' = w := Any.strconv_Itoa_small Sh.lays171 i hi w

end Go.Proofs.YtlaepkmnbbgbcaaGreatDoor
/- A strings.Builder of the call's own, written. -/
namespace Go.Proofs.YtlaepkmnbbgbcaaGreatDoor
open Go.RowKit Go.Instr Go.Shelf
set_option linter.unusedVariables false
set_option linter.unusedSimpArgs false
attribute [local go_sem] Oper.semAt_some

theorem builder_size : (Tryz.prog.info? 100).map (·.size) = some 2 := by kernel_rfl
theorem builder_lies : liesAt Tryz.prog Tryz.prog.depth 100 (2 / Tryz.prog.cellsOf 100) 0 100 1 = true := by kernel_rfl
/-- A builder in the block b that holds these bytes; whatever it has lies in blocks from B on. -/
abbrev Bld (B b : Nat) (l : List UInt8) (w : World) : Prop := Lib.IsBuilderF 100 5 B b (Lib.byteCells l) w
set_option maxRecDepth 100000 in
set_option maxHeartbeats 1000000 in
theorem copyCheck_any (B b : Nat) (bs : List Value) (w : World) (h : Lib.IsBuilderF 100 5 B b bs w) :
    Calls Tryz.prog 99 #[.pointer (some ⟨b, 0, none⟩)] w fun e w' => e = .returned (.tuple #[]) ∧ Lib.BuilderAtF 100 5 B b (.pointer (some ⟨b, 0, none⟩)) bs w' ∧ Below B w w' ∧ Lib.OthersKept 5 (some b) w w' := by
  obtain ⟨j, hj, hjs⟩ := Option.map_eq_some_iff.1 builder_size
  rcases h with h | h
  · have h0 := h.cell0; have hsh := h.shape; have hfz := h.frozen0
    have H := Lib.hid h
    clear h
    go_enter Tryz.func99, Tryz.ntmps99
    go_wp2
    rw [Lib.run_to_unsafe w ⟨b, 0, none⟩ Tryz.underlying97 Tryz.underlying180 hj (by rw [hjs]; decide) hsh (Nat.zero_lt_succ 1)]
    simp only [Result.andThen]
    rw [Oper.upon_value]
    go_wp2
    rw [run_callFunc_extern Tryz.func138 (by kernel_rfl) (by kernel_rfl) (by kernel_rfl) (e := Extern.AbiNoEscape.same) (by kernel_rfl)]
    rw [Lib.run_noEscape]
    simp only [Result.andThen]
    rw [Oper.upon_value]
    go_wp2
    rw [Lib.run_from_unsafe w ⟨b, 0, none⟩ Tryz.underlying180 Tryz.underlying97 hj hsh builder_lies]
    simp only [Result.andThen]
    rw [Oper.upon_value]
    go_wp2
    go_end0
    exact ⟨rfl, H.out.used _, (Below.refl B w).setCell (p := ⟨b, 0, none⟩) H.out.1 _, (Lib.OthersKept.refl _ _ w).setCell ⟨b, 0, none⟩ rfl _⟩
  · have h0 := h.cell0
    have H := Lib.hid h
    clear h
    go_enter Tryz.func99, Tryz.ntmps99
    go_wp2
    rw [Lib.run_neq_ptr_same w _ Tryz.underlying97 hj]
    go_wp2
    go_end0
    exact ⟨rfl, H.out, Below.refl B _, Lib.OthersKept.refl _ _ _⟩
theorem info_byteC : (Tryz.prog.info? 5).map (fun i => (i.zero, i.size, i.bytes)) = some (some (.int .u8 0), 1, 1) := by kernel_rfl
set_option maxRecDepth 100000 in
set_option maxHeartbeats 2000000 in
/-- (*strings.Builder).WriteString. -/
theorem write_any (B b : Nat) (l : List UInt8) (s : ByteArray) (w : World) (h : Bld B b l w) (hlen : l.length + s.size ≤ 140737488355328) (hBw : B ≤ w.heap.size) :
    Calls Tryz.prog 55 #[.pointer (some ⟨b, 0, none⟩), .string s] w fun e w' => e = .returned (.tuple #[.int .i64 s.size, .nilIface]) ∧ Bld B b (l ++ s.data.toList) w' ∧ Below B w w' ∧ Lib.OthersKept 5 (some b) w w' := by
  obtain ⟨i0, hi, hz0, hz1, hz2⟩ := info_parts info_byteC
  have hbl : (Lib.byteCells l).length = l.length := by simp [Lib.byteCells]
  have HCC := Lib.hid (copyCheck_any B b (Lib.byteCells l) w h)
  clear h
  go_enter Tryz.func55, Tryz.ntmps55
  go_wp2_with (go_at_call 99; refine HCC.out.mono ?_)
  rintro e w1 ⟨rfl, h1, hb1, hk1⟩
  obtain ⟨hB, v, hbk, hown, hne⟩ := h1
  have c0 : w1.cell? ⟨b, 0, none⟩ = some (.pointer (some ⟨b, 0, none⟩)) := by rw [Lib.cell_of_heap hbk]; rfl
  have c1 : w1.cell? ⟨b, 1, none⟩ = some v := by rw [Lib.cell_of_heap hbk]; rfl
  go_wp2_with (at_builtin; refine Lib.wpList_append_own_stringF _ rfl _ _ 98 9 rfl B 5 i0 Tryz.underlying98 Tryz.underlying9 hi hz0 hz1 hz2 _ _ _ rfl hown s rfl ?c3 ?c4 ?c5 ?_)
  case c3 => unfold maxLen; omega
  case c4 => omega
  case c5 => have := hb1.size; omega
  intro v' w2 hown' hgrow _
  have hlt : b < w1.heap.size := (Array.getElem?_eq_some_iff.1 hbk).1
  have hb2 : w2.heap[b]? = some (.cells #[.pointer (some ⟨b, 0, none⟩), v] 100 (0, 0)) := by
    rw [hgrow.block b hlt (fun e => hne e.symm)]
    exact hbk
  have d0 : w2.cell? ⟨b, 0, none⟩ = some (.pointer (some ⟨b, 0, none⟩)) := by rw [Lib.cell_of_heap hb2]; rfl
  have d1 : w2.cell? ⟨b, 1, none⟩ = some v := by rw [Lib.cell_of_heap hb2]; rfl
  have f1 : w2.frozen? ⟨b, 1, none⟩ = false := Lib.frozen_of_heap hb2 1
  obtain ⟨ao, n', cap, rfl⟩ : ∃ ao n' cap, v' = .slice ao n' cap := by
    rcases hown'.2 with ⟨hv, _⟩ | ⟨g, cap, cur, fz, hv, _⟩
    · exact ⟨_, _, _, hv⟩
    · exact ⟨_, _, _, hv⟩
  go_wp2
  go_ret2
  refine ⟨rfl, .inr ?_, ?_, (hk1.grown hgrow (Lib.ownsRowF_kind hown)).setCell ⟨b, 1, none⟩ rfl _⟩
  · have e : Lib.byteCells (l ++ s.data.toList) = Lib.byteCells l ++ Lib.strCells s := by simp [Lib.byteCells, Lib.strCells]
    rw [e]
    exact Lib.BuilderAtF.put (T := 100) (e := 5) hB hb2 (bs' := Lib.byteCells l ++ Lib.strCells s) (by rw [List.length_append, Lib.strCells_length, hbl]; exact hown') (by decide)
  · exact (hb1.grown hgrow (by have := hb1.size; omega) (fun k hk => (hown.lt k hk).1)).setCell (p := ⟨b, 1, none⟩) hB _
end Go.Proofs.YtlaepkmnbbgbcaaGreatDoor
