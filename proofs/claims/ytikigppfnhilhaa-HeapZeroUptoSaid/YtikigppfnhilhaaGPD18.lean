/- What a minor collection counts and what it starts with. -/
import Derived.Test.YtikigppfnhilhaaGPD17
/- What a minor collection counts and what it starts with. -/
namespace Go.Proofs.Ytikigppfnhilhaa
open Go.RowKit Go.Instr
set_option linter.unusedVariables false
set_option linter.unusedSimpArgs false

theorem esGet_of_mem {es : List MapEntry} {e : MapEntry} (he : e ∈ es) {k : Int} (hk : e.key = .int .i64 k) : esGet es k ≠ none := by
  induction es with
  | nil => cases he
  | cons a es ih =>
    simp only [esGet]
    rcases List.mem_cons.1 he with rfl | he
    · rw [hk]; simp
    · split
      · split
        · simp
        · exact ih he
      · exact ih he
/-- Words that are read, when there are some, lie in a block that is not written. -/
theorem RdW.kept2 {S : Nat → Prop} {w w' : World} {v : Value} {ws : List Wd} (h : RdW w v ws) (hx : Keeps S w w') (hs : ws ≠ [] → ∀ k, v.ownBlock = some k → ¬ S k) : RdW w' v ws := by
  by_cases hn : ws = []
  · subst hn
    obtain ⟨a, c, rfl, h1, -⟩ := h
    exact ⟨a, c, rfl, h1, fun ad had j u hu => by simp [flatL] at hu⟩
  · exact h.kept hx (hs hn)
theorem sum_sub {α : Type} (g : α → Nat) {a b : List α} (hn : a.Nodup) (hs : ∀ k ∈ a, k ∈ b) : (a.map g).sum ≤ (b.map g).sum := by
  classical
  induction a generalizing b with
  | nil => simp
  | cons k a ih =>
    obtain ⟨h1, h2⟩ := List.nodup_cons.1 hn
    have hk := hs k (by simp)
    have := ih h2 (b := b.erase k) fun j hj => (List.mem_erase_of_ne (by rintro rfl; exact h1 hj)).2 (hs j (by simp [hj]))
    have e := ((List.perm_cons_erase hk).map g).sum_nat
    simp only [List.map_cons, List.sum_cons] at e ⊢
    omega
def szB (b : Bk) : Nat := b.ws.length + 1
theorem bused_nat (l : List Bk) : bused l = ((l.map szB).sum : Nat) := by
  induction l with
  | nil => rfl
  | cons b l ih => rw [bused_cons, ih]; simp only [List.map_cons, List.sum_cons, szB]; omega
theorem nodup_of_map {α β : Type} {f : α → β} {l : List α} (h : (l.map f).Nodup) : l.Nodup := by
  induction l with
  | nil => simp
  | cons a l ih =>
    rw [List.map_cons, List.nodup_cons] at h
    exact List.nodup_cons.2 ⟨fun ha => h.1 (List.mem_map_of_mem ha), ih h.2⟩
theorem nodup_map_of {α β : Type} {f : α → β} {l : List α} (h : l.Nodup) (hi : ∀ a ∈ l, ∀ b ∈ l, f a = f b → a = b) : (l.map f).Nodup := by
  induction l with
  | nil => simp
  | cons a l ih =>
    obtain ⟨h1, h2⟩ := List.nodup_cons.1 h
    rw [List.map_cons, List.nodup_cons]
    refine ⟨fun hm => ?_, ih h2 fun b hb c hc => hi b (by simp [hb]) c (by simp [hc])⟩
    obtain ⟨b, hb, e⟩ := List.mem_map.1 hm
    exact h1 (by rw [← hi b (by simp [hb]) a (by simp) e]; exact hb)
theorem bused_sub {a b : List PB} (hn : a.Nodup) (hs : ∀ k ∈ a, k ∈ b) : bused (a.map PB.b) ≤ bused (b.map PB.b) := by
  rw [bused_nat, bused_nat, List.map_map, List.map_map]
  exact Int.ofNat_le.2 (sum_sub _ hn hs)
theorem bused_same {a b : List PB} (hn : a.Nodup) (hm : b.Nodup) (hs : ∀ k, k ∈ a ↔ k ∈ b) : bused (a.map PB.b) = bused (b.map PB.b) :=
  Int.le_antisymm (bused_sub hn fun k hk => (hs k).1 hk) (bused_sub hm fun k hk => (hs k).2 hk)

def remOf (h : LH) (l : List Int) : List Wd := l.flatMap fun k => match h.find k with | some b => b.ws | none => []
theorem remOf_append (h : LH) (a b : List Int) : remOf h (a ++ b) = remOf h a ++ remOf h b := by simp [remOf]
theorem remOf_one (h : LH) {k : Int} {b : Bk} (hf : h.find k = some b) : remOf h [k] = b.ws := by simp [remOf, hf]
theorem remOf_mem {h : LH} {l : List Int} {u : Wd} : u ∈ remOf h l ↔ ∃ k ∈ l, ∃ b, h.find k = some b ∧ u ∈ b.ws := by
  unfold remOf
  rw [List.mem_flatMap]
  constructor
  · rintro ⟨k, hk, hu⟩
    cases hf : h.find k with
    | none => rw [hf] at hu; cases hu
    | some b => rw [hf] at hu; exact ⟨k, hk, b, hf, hu⟩
  · rintro ⟨k, hk, b, hf, hu⟩
    exact ⟨k, hk, by rw [hf]; exact hu⟩
theorem remOf_len {h : LH} {l : List Int} (hn : l.Nodup) (hs : ∀ k ∈ l, ∃ b ∈ h.all, b.at_ = k) (ha : (h.all.map Bk.at_).Nodup) : ((remOf h l).length : Int) ≤ bused h.all := by
  unfold remOf
  rw [List.length_flatMap]
  have h1 := sum_sub (fun k => (match h.find k with | some b => b.ws | none => []).length) hn (b := h.all.map Bk.at_) fun k hk => by
    obtain ⟨b, hb, e⟩ := hs k hk
    rw [← e]; exact List.mem_map_of_mem hb
  rw [List.map_map] at h1
  have h2 : (h.all.map ((fun k => (match h.find k with | some b => b.ws | none => []).length) ∘ Bk.at_)).sum ≤ (h.all.map szB).sum := by
    have : ∀ b ∈ h.all, ((fun k => (match h.find k with | some b => b.ws | none => []).length) ∘ Bk.at_) b ≤ szB b := fun b hb => by
      have hf : h.find b.at_ = some b := find_nodup (g := Bk.at_) ha hb
      simp only [Function.comp]
      rw [hf]; simp [szB]
    generalize h.all = L at this
    induction L with
    | nil => simp
    | cons b L ih =>
      have h1 := this b (by simp)
      have h2 := ih fun b hb => this b (by simp [hb])
      simp only [List.map_cons, List.sum_cons]; omega
  rw [bused_nat]; omega
theorem PH.Ok.log_ats {x : PH} (h : x.Ok) : (x.log.all.map Bk.at_).Nodup := by rw [log_all, List.map_map]; exact h.ats
theorem PH.Ok.used_all {x : PH} (h : x.Ok) : bused x.log.all ≤ 200000 := by
  unfold LH.all PH.log
  rw [bused_append, ← h.yu, ← h.ou]
  have := h.yu1; have := h.ou1; have := h.Y1; have := h.O1; omega

/-- The blocks of a list that have been kept. -/
def keptPB (K : List PB) (l : List PB) : List PB := l.filter fun y => decide (y.p ∈ K.map PB.p)
theorem keptPB_map {x : PH} (hok : x.Ok) (hps : (x.all.map PB.p).Nodup) {p : PB → Bool} {q : Bk → Bool} (hpq : ∀ y ∈ x.all, p y = q y.b) {from_ from' : List Wd} (hfr : ∀ u, u ∈ from_ ↔ u ∈ from')
    {K : List PB} (hK : ∀ y, y ∈ K ↔ Rch x.find p from_ y) (hKs : ∀ y ∈ K, y ∈ x.all) {l : List PB} (hl : ∀ y ∈ l, y ∈ x.all) : (keptPB K l).map PB.b = (l.map PB.b).filter (x.log.keep q from') := by
  rw [List.filter_map]
  unfold keptPB
  congr 1
  apply List.filter_congr
  intro y hy
  exact (keep_log hok hps hpq hfr hK hKs (hl y hy)).symm
theorem Rch.p_of {F : Int → Option PB} {p : PB → Bool} {a : List Wd} {y : PB} (h : Rch F p a y) : p y = true := by
  cases h <;> assumption
theorem keptPB_young {x : PH} (hok : x.Ok) (hps : (x.all.map PB.p).Nodup) {K : List PB} (hKs : ∀ y ∈ K, y ∈ x.all) (hp : ∀ y ∈ K, y.b.at_ ≤ x.Y) (hn : (K.map PB.p).Nodup) : bused (K.map PB.b) = bused ((keptPB K x.yb).map PB.b) := by
  have hyn : x.yb.Nodup := by
    have := nodup_of_map hps; exact (List.nodup_append.1 this).1
  refine bused_same (nodup_of_map hn) (hyn.sublist List.filter_sublist) fun y => ?_
  unfold keptPB
  rw [List.mem_filter, decide_eq_true_iff]
  constructor
  · intro hy
    refine ⟨?_, List.mem_map_of_mem hy⟩
    rcases List.mem_append.1 (hKs y hy) with h | h
    · exact h
    · have := hok.do_.mem (List.mem_map_of_mem (f := PB.b) h); have := hp y hy; omega
  · rintro ⟨hy, hk⟩
    obtain ⟨z, hz, e⟩ := List.mem_map.1 hk
    have := inj_of_nodup hps (hKs z hz) (List.mem_append_left _ hy) e
    rw [← this]; exact hz

/-- The heap with an empty young generation. -/
def PH.noYoung (x : PH) : PH := { x with fy := 1, yu := 0, yv := .slice none 0 0, yb := [] }
theorem Half.minor0 {W V : World} {base : Nat} {x : PH} (h : HRep W base x) (hv : V = (((W.setCell ⟨x.hp, 0, none⟩ (.int .i64 1)).setCell ⟨x.hp, 1, none⟩ (.int .i64 x.Y)).setCell ⟨x.hp, 2, none⟩ (.int .i64 0)).setCell ⟨x.hp, 3, none⟩ (.slice none 0 0)) :
    Half W x V base x.noYoung x.yb := by
  have hk : Keeps (· = x.hp) W V := by
    rw [hv]
    exact ((((Keeps.refl (· = x.hp) W).setCell (p := ⟨x.hp, 0, none⟩) (.inl rfl) _).setCell (p := ⟨x.hp, 1, none⟩) (.inl rfl) _).setCell (p := ⟨x.hp, 2, none⟩) (.inl rfl) _).setCell (p := ⟨x.hp, 3, none⟩) (.inl rfl) _
  have hperm : ([] ++ x.ob ++ x.yb).Perm x.all := by simpa [PH.all] using (List.perm_append_comm (l₁ := x.ob) (l₂ := x.yb))
  have hall : ∀ y, y ∈ x.noYoung.all ++ x.yb ↔ y ∈ x.all := fun y => hperm.mem_iff
  exact
    { hp := rfl
      blk := by
        have := (((h.blk.set 0 (.int .i64 1)).set 1 (.int .i64 x.Y)).set 2 (.int .i64 0)).set 3 (.slice none 0 0)
        rw [hv]; simpa [PH.cells, PH.noYoung] using this
      yrow := World.ownsRow_nil _ _ _ _
      orow := ownsRow_keeps h.orow fun k hk' => by
        obtain ⟨cur, hc⟩ := ownsRow_type h.orow hk'
        exact hk.block k hc.lt (hc.ne h.blk (by decide))
      rows := fun k e => by simp [PH.noYoung, Value.ownBlock] at e
      yown := fun k e => by simp [PH.noYoung, Value.ownBlock] at e
      oown := fun k e => .inl e.symm
      kp := hk.mono fun k _ e => .inl e
      pbs := fun y hy => by
        have hp := h.pbs y ((hall y).1 hy)
        exact ⟨hk.blk hp.st (hp.st.ne h.blk (by decide)), hk.blk hp.wo (hp.wo.ne h.blk (by decide))⟩
      ps := (hperm.map PB.p).nodup_iff.2 h.ps
      sub := fun y hy => ⟨y, (hall y).1 hy, rfl, rfl⟩
      ok := { h.ok with yu := rfl, yu1 := h.ok.Y0, fy := fun _ => rfl, dy := trivial }
      base_ := Nat.le_trans (h.base_ _ (.inl rfl)) (Nat.le_of_lt h.blk.lt)
      lie := fun z hz => ⟨_, hk.blk (h.pbs z hz).st ((h.pbs z hz).st.ne h.blk (by decide))⟩ }

/-- A new, empty set of remembered blocks. -/
theorem Half.setRv {w0 : World} {x0 : PH} {W : World} {base : Nat} {x : PH} {pend : List PB} (h : Half w0 x0 W base x pend) :
    Half w0 x0 ((W.alloc (.map #[] 0)).setCell ⟨x.hp, 9, none⟩ (.map (some W.heap.size))) base { x with rv := .map (some W.heap.size), R := [] } pend := by
  have hk : Keeps (· = x.hp) W ((W.alloc (.map #[] 0)).setCell ⟨x.hp, 9, none⟩ (.map (some W.heap.size))) := ((Keeps.refl (· = x.hp) W).alloc _).setCell (p := ⟨x.hp, 9, none⟩) (.inl rfl) _
  exact
    { hp := h.hp
      blk := by
        have := (h.blk.alloc (.map #[] 0)).set 9 (.map (some W.heap.size))
        simpa [PH.cells] using this
      yrow := ownsRow_keeps h.yrow fun k hk' => by
        obtain ⟨cur, hc⟩ := ownsRow_type h.yrow hk'
        exact hk.block k hc.lt (hc.ne h.blk (by decide))
      orow := ownsRow_keeps h.orow fun k hk' => by
        obtain ⟨cur, hc⟩ := ownsRow_type h.orow hk'
        exact hk.block k hc.lt (hc.ne h.blk (by decide))
      rows := h.rows
      yown := h.yown
      oown := h.oown
      kp := h.kp.trans' hk fun k _ e => .inl (e.trans h.hp)
      pbs := fun y hy => by
        have hp := h.pbs y hy
        exact ⟨hk.blk hp.st (hp.st.ne h.blk (by decide)), hk.blk hp.wo (hp.wo.ne h.blk (by decide))⟩
      ps := h.ps
      sub := h.sub
      ok := { h.ok with nil := fun e => e.elim (fun e => h.ok.nil (.inl e)) fun e => by cases e }
      base_ := h.base_
      lie := fun z hz => let ⟨c, hc⟩ := h.lie z hz; ⟨c, hk.blk hc (hc.ne h.blk (by decide))⟩ }
/-- A minor collection under way: k young blocks have been looked at. -/
def PH.moving (x : PH) (K : List PB) (k : Nat) (ov : Value) : PH :=
  { x.noYoung with ou := x.ou + bused ((keptPB K (x.yb.take k)).map PB.b), ov := ov, ob := x.ob ++ shiftPB (x.Y + 1 + x.ou) (keptPB K (x.yb.take k)) }
theorem PH.moving_zero (x : PH) (K : List PB) : x.moving K 0 x.ov = x.noYoung := by
  simp [PH.moving, keptPB, shiftPB, bused, PH.noYoung]
theorem keptPB_step {K l : List PB} {k : Nat} {y : PB} (hy : l[k]? = some y) : keptPB K (l.take (k + 1)) = if y.p ∈ K.map PB.p then keptPB K (l.take k) ++ [y] else keptPB K (l.take k) := by
  unfold keptPB
  rw [List.take_add_one, hy, List.filter_append]
  by_cases e : y.p ∈ K.map PB.p
  · rw [if_pos e]; simp [Option.toList, e]
    simpa using e
  · rw [if_neg e]; simp [Option.toList]
    simpa using e
theorem PH.moving_skip {x : PH} {K : List PB} {k : Nat} {ov : Value} {y : PB} (hy : x.yb[k]? = some y) (hn : y.p ∉ K.map PB.p) : x.moving K (k + 1) ov = x.moving K k ov := by
  unfold PH.moving; rw [keptPB_step hy, if_neg hn]
theorem PH.moving_step {x : PH} {K : List PB} {k : Nat} {ov ov' : Value} {y : PB} (hy : x.yb[k]? = some y) (hk : y.p ∈ K.map PB.p) :
    { x.moving K k ov with ou := (x.moving K k ov).ou + (y.b.ws.length + 1), ov := ov', ob := (x.moving K k ov).ob ++ [y.to ((x.moving K k ov).Y + 1 + (x.moving K k ov).ou)] } = x.moving K (k + 1) ov' := by
  unfold PH.moving
  rw [keptPB_step hy, if_pos hk, shiftPB_append, List.map_append, bused_append]
  simp [PH.noYoung, bused, shiftPB, List.append_assoc, Int.add_assoc]
theorem keptPB_le (K l : List PB) (k : Nat) : bused ((keptPB K (l.take k)).map PB.b) ≤ bused ((keptPB K l).map PB.b) := by
  have : keptPB K l = keptPB K (l.take k) ++ keptPB K (l.drop k) := by unfold keptPB; rw [← List.filter_append, List.take_append_drop]
  rw [this, List.map_append, bused_append]
  have := bused_nonneg ((keptPB K (l.drop k)).map PB.b); omega
theorem mem_keptPB {K l : List PB} {y : PB} : y ∈ keptPB K l ↔ y ∈ l ∧ y.p ∈ K.map PB.p := by
  unfold keptPB; rw [List.mem_filter, decide_eq_true_iff]
theorem mem_K {x : PH} (hps : (x.all.map PB.p).Nodup) {K : List PB} (hKs : ∀ y ∈ K, y ∈ x.all) {y : PB} (hy : y ∈ x.all) : y.p ∈ K.map PB.p ↔ y ∈ K := ⟨fun h => by
    obtain ⟨z, hz, e⟩ := List.mem_map.1 h
    have := inj_of_nodup hps (hKs z hz) hy e
    rw [← this]; exact hz, fun h => List.mem_map_of_mem h⟩
theorem not_bad {x : PH} {u : Wd} (h : x.log.bad u = false) (hu : refW u ≠ 0) : ∃ z, x.find (refW u) = some z := by
  rw [log_bad] at h
  unfold PH.bad badF at h
  cases hf : x.find (refW u) with
  | some z => exact ⟨z, rfl⟩
  | none => rw [hf] at h; simp [hu] at h
/-- Nothing that is kept by a minor collection refers to what is not. -/
theorem minor_closed {x : PH} (hok : x.Ok) (hps : (x.all.map PB.p).Nodup) (hinv : LInv x.log) {from_ roots : List Wd} (hfr : ∀ u, u ∈ from_ ↔ u ∈ roots ++ x.log.remW)
    {K : List PB} (hK : ∀ y, y ∈ K ↔ Rch x.find (fun y => decide (y.b.at_ ≤ x.Y)) from_ y) (hKs : ∀ y ∈ K, y ∈ x.all) {u : Wd} (hu : refW u ≠ 0) (hb : x.log.bad u = false)
    (hsrc : u ∈ roots ∨ ∃ y ∈ x.ob ++ keptPB K x.yb, u ∈ y.b.ws) : ∃ z ∈ x.ob ++ keptPB K x.yb, x.find (refW u) = some z := by
  obtain ⟨z, hz⟩ := not_bad hb hu
  refine ⟨z, ?_, hz⟩
  have hzm := (PH.find_mem hz).1
  rcases List.mem_append.1 hzm with hzy | hzo
  · refine List.mem_append_right _ (mem_keptPB.2 ⟨hzy, (mem_K hps hKs hzm).2 ((hK z).2 ?_)⟩)
    have hzY : decide (z.b.at_ ≤ x.Y) = true := by
      have := hok.dy.mem (List.mem_map_of_mem (f := PB.b) hzy); have := hok.yu; have := hok.yu1; simp; omega
    rcases hsrc with hr | ⟨y, hy, huy⟩
    · exact .root ((hfr u).2 (List.mem_append_left _ hr)) hz hzY
    · rcases List.mem_append.1 hy with hyo | hyk
      · refine .root ((hfr u).2 (List.mem_append_right _ (remOf_mem.2 ⟨y.b.at_, ?_, y.b, ?_, huy⟩))) hz hzY
        · refine hinv.mem y.b (List.mem_map_of_mem hyo) u huy hu ?_
          have e := (PH.find_mem hz).2
          have := hok.dy.mem (List.mem_map_of_mem (f := PB.b) hzy); have := hok.yu; have := hok.yu1
          show refW u ≤ x.Y
          omega
        · rw [log_find, hok.find_mem (List.mem_append_right _ hyo)]; rfl
      · obtain ⟨hyy, hyK⟩ := mem_keptPB.1 hyk
        exact .step ((hK y).1 ((mem_K hps hKs (List.mem_append_left _ hyy)).1 hyK)) huy hz hzY
  · exact List.mem_append_left _ hzo
theorem moved_fp {x : PH} {f : Int → Int} {m k : Nat} (h : (x.moved f m).fp k) : x.fp k ∨ k = m := by
  rcases h with e | e | e | e | e | e | e
  · exact .inl (.inl e)
  · exact .inl (.inr (.inl e))
  · exact .inl (.inr (.inr (.inl e)))
  · injection e with e; injection e with e; exact .inr e.symm
  · exact .inl (.inr (.inr (.inr (.inr (.inl e)))))
  · rw [mvPB_all, List.map_map] at e; exact .inl (.inr (.inr (.inr (.inr (.inr (.inl e))))))
  · rw [mvPB_all, List.map_map] at e; exact .inl (.inr (.inr (.inr (.inr (.inr (.inr e))))))

/-- A heap that has been settled is what it was to be. -/
theorem Half.step {w w8 V w' : World} {base : Nat} {x x1 : PH} {f : Int → Int} {m : Nat} (hx8 : Ext w w8) (hH : Half w8 x V base x1 []) (hav : x1.av = x.av) (hrv : x1.rv = x.rv ∨ ∃ r, x1.rv = .map (some r) ∧ w8.heap.size ≤ r)
    (hr : HRep w' base (x1.moved f m)) (hk : Keeps x1.fp V w') (hm : V.heap.size ≤ m) {l : LH} (hl : (x1.moved f m).log = l) : StepC w base x l w' := by
  have hs := hx8.size
  have hs2 := hH.kp.size
  have hfp := hH.fp hav hrv
  refine ⟨x1.moved f m, hr, hH.hp, hl, ?_, ?_, ?_⟩
  · refine ((hx8.mono fun _ _ h => h.elim : Keeps x.fp w w8).trans' (hH.kp.mono fun _ _ h => h.fp) fun _ _ h => h).trans' hk fun k hk2 hf => ?_
    rcases hfp k hf with h | h
    · exact h
    · omega
  · intro k hk2
    rcases moved_fp hk2 with h | rfl
    · rcases hfp k h with h | h
      · exact .inl h
      · exact .inr (by omega)
    · exact .inr (by omega)
  · intro k hk2
    rw [mvPB_all, List.map_map] at hk2
    obtain ⟨y, hy, rfl⟩ := List.mem_map.1 hk2
    obtain ⟨z, hz, _, e⟩ := hH.sub y (List.mem_append_left _ hy)
    exact List.mem_map.2 ⟨z, hz, e⟩
end Go.Proofs.Ytikigppfnhilhaa
