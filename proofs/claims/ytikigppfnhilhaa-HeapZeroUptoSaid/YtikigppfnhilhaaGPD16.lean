/- A collection under way: blocks are pushed behind one another. -/
import Derived.Test.YtikigppfnhilhaaGPD12
import Derived.Test.YtikigppfnhilhaaGPD15
/- A collection under way: blocks are pushed behind one another. -/
namespace Go.Proofs.Ytikigppfnhilhaa
open Go.RowKit Go.Instr
set_option linter.unusedVariables false
set_option linter.unusedSimpArgs false

/-- What a collection writes: the heap, the blocks' structs, the old row. -/
def HalfS (x0 : PH) (k : Nat) : Prop := k = x0.hp ∨ k ∈ x0.all.map PB.p ∨ some k = x0.ov.ownBlock
structure Half (w0 : World) (x0 : PH) (W : World) (base : Nat) (x : PH) (pend : List PB) : Prop where
  hp : x.hp = x0.hp
  blk : Blk W x.hp x.cells 81
  yrow : W.ownsRow base 89 1 x.yv x.yb.length (x.yb.map PB.ptr)
  orow : W.ownsRow base 89 1 x.ov x.ob.length (x.ob.map PB.ptr)
  rows : ∀ k, x.yv.ownBlock = some k → x.ov.ownBlock ≠ some k
  yown : ∀ k, x.yv.ownBlock = some k → w0.heap.size ≤ k
  oown : ∀ k, x.ov.ownBlock = some k → some k = x0.ov.ownBlock ∨ w0.heap.size ≤ k
  kp : Keeps (HalfS x0) w0 W
  pbs : ∀ y ∈ x.all ++ pend, PBlk W y
  ps : ((x.all ++ pend).map PB.p).Nodup
  sub : ∀ y ∈ x.all ++ pend, ∃ z ∈ x0.all, z.p = y.p ∧ z.arr = y.arr
  ok : x.Ok
  base_ : base ≤ w0.heap.size
  lie : ∀ z ∈ x0.all, ∃ c, Blk W z.p c 91
def PB.to (y : PB) (a : Int) : PB := { y with b := { y.b with at_ := a } }

theorem Half.skip {w0 : World} {x0 : PH} {W : World} {base : Nat} {x : PH} {y : PB} {pend : List PB} (h : Half w0 x0 W base x (y :: pend)) : Half w0 x0 W base x pend := by
  have hs : ∀ z ∈ x.all ++ pend, z ∈ x.all ++ y :: pend := fun z hz => by
    rcases List.mem_append.1 hz with hz | hz
    · exact List.mem_append_left _ hz
    · exact List.mem_append_right _ (List.mem_cons_of_mem _ hz)
  have hl : (x.all ++ pend).Sublist (x.all ++ y :: pend) := List.Sublist.append_left (List.sublist_cons_self _ _) _
  exact { h with pbs := fun z hz => h.pbs z (hs z hz), ps := h.ps.sublist (hl.map _), sub := fun z hz => h.sub z (hs z hz) }
theorem Half.ext {w0 : World} {x0 : PH} {W W' : World} {base : Nat} {x : PH} {pend : List PB} (h : Half w0 x0 W base x pend) (hx : Ext W W') : Half w0 x0 W' base x pend :=
  { h with
    blk := hx.blk h.blk id
    yrow := own_ext h.yrow hx
    orow := own_ext h.orow hx
    kp := h.kp.trans' hx fun _ _ h => h.elim
    pbs := fun y hy => ⟨hx.blk (h.pbs y hy).st id, hx.blk (h.pbs y hy).wo id⟩
    lie := fun z hz => let ⟨c, hc⟩ := h.lie z hz; ⟨c, hx.blk hc id⟩ }
theorem arrs_of {x0 : PH} (ha : (x0.all.map PB.arr).Nodup) {l : List PB} (hp : (l.map PB.p).Nodup) (hs : ∀ y ∈ l, ∃ z ∈ x0.all, z.p = y.p ∧ z.arr = y.arr) : (l.map PB.arr).Nodup := by
  induction l with
  | nil => simp
  | cons c l ih =>
    rw [List.map_cons, List.nodup_cons] at hp ⊢
    refine ⟨fun hc => ?_, ih hp.2 fun y hy => hs y (List.mem_cons_of_mem _ hy)⟩
    obtain ⟨y, hy, e⟩ := List.mem_map.1 hc
    obtain ⟨z, hz, z1, z2⟩ := hs y (List.mem_cons_of_mem _ hy)
    obtain ⟨z', hz', z1', z2'⟩ := hs c (by simp)
    have := inj_of_nodup ha hz hz' (by rw [z2, z2', e])
    subst this
    exact hp.1 (by rw [← z1', z1]; exact List.mem_map_of_mem hy)

/-- A block that waits is put behind the old ones. -/
theorem Half.push_old {w0 : World} {x0 : PH} {W : World} {base : Nat} {x : PH} {y : PB} {pend : List PB} (h : Half w0 x0 W base x (y :: pend)) (hroom : x.ou + (y.b.ws.length + 1) ≤ x.O) :
    Calls Try.prog 60 #[.pointer (some ⟨x.hp, 4, none⟩), .pointer (some ⟨y.p, 0, none⟩)] W fun e W' => e = .returned (.tuple #[]) ∧ ∃ v', Half w0 x0 W' base { x with ou := x.ou + (y.b.ws.length + 1), ov := v', ob := x.ob ++ [y.to (x.Y + 1 + x.ou)] } pend ∧ Keeps (fun k => k = x.hp ∨ k = y.p ∨ x.ov.ownBlock = some k) W W' ∧ ∀ k, v'.ownBlock = some k → x.ov.ownBlock = some k ∨ W.heap.size ≤ k := by
  have hu0 : 0 ≤ x.ou := h.ok.ou0
  have hc0 : 0 < x.O := by omega
  have hc1 : x.O ≤ 100000 := h.ok.O1
  have hY1 : x.Y ≤ 100000 := h.ok.Y1
  have hY0 : 0 ≤ x.Y := h.ok.Y0
  have hf : x.fo = x.Y + 1 := h.ok.fo hc0
  have hy : y ∈ x.all ++ y :: pend := by simp
  have hpb := h.pbs y hy
  have hpy : y.p ≠ x.hp := hpb.st.ne h.blk (by decide)
  have hlen : x.ob.length ≤ 100000 := by
    have h1 := bused_len (x.ob.map PB.b); rw [List.length_map, ← h.ok.ou] at h1; omega
  have hnd : y.p ∉ (x.all ++ pend).map PB.p := by
    have hp : (x.all ++ y :: pend).Perm (y :: (x.all ++ pend)) := List.perm_middle
    have := (hp.map PB.p).nodup_iff.1 h.ps
    rw [List.map_cons, List.nodup_cons] at this; exact this.1
  refine (push_raw W base x.hp 4 y.p x.cells y.cells 81 (by decide) h.blk x.fo x.ou y.b.ws.length x.ov x.ob.length (x.ob.map PB.ptr) rfl rfl rfl (by omega) (by omega) hu0 (by omega) hpb.st rfl (some ⟨y.arr, 0, none⟩) y.b.ws.length rfl (by omega) hpy h.orow hlen (Nat.le_trans h.base_ h.kp.size)).mono ?_
  rintro e W' ⟨rfl, v', hpush⟩
  refine ⟨rfl, v', ?_, hpush.keeps, hpush.own⟩
  have hold : ∀ b cs t, Blk W b cs t → b ≠ y.p → t ≠ 81 → t ≠ 89 → Blk W' b cs t := fun b cs t hb e1 e2 e3 => by
    refine hpush.keeps.blk hb ?_
    rintro (e | e | e)
    · exact (hb.ne h.blk e2) e
    · exact e1 e
    · obtain ⟨cur, hc⟩ := ownsRow_type h.orow e
      exact (hb.ne hc e3) rfl
  have hS : ∀ k, k < w0.heap.size → (k = x.hp ∨ k = y.p ∨ x.ov.ownBlock = some k) → HalfS x0 k := by
    rintro k hk (e | e | e)
    · exact .inl (e.trans h.hp)
    · obtain ⟨z, hz, hzp, _⟩ := h.sub y hy
      exact .inr (.inl (by rw [e, ← hzp]; exact List.mem_map_of_mem hz))
    · exact (h.oown k e).elim (fun e => .inr (.inr e)) fun h => by omega
  have hall : ∀ z, z ∈ ({ x with ou := x.ou + (y.b.ws.length + 1), ov := v', ob := x.ob ++ [y.to (x.Y + 1 + x.ou)] } : PH).all ++ pend ↔ z ∈ x.all ++ pend ∨ z = y.to (x.Y + 1 + x.ou) := by
    intro z; simp only [PH.all, List.mem_append, List.mem_singleton]; constructor
    · rintro ((h | (h | h)) | h) <;> simp [h]
    · rintro (((h | h) | h) | h) <;> simp [h]
  have hperm : (({ x with ou := x.ou + (y.b.ws.length + 1), ov := v', ob := x.ob ++ [y.to (x.Y + 1 + x.ou)] } : PH).all ++ pend).Perm (y.to (x.Y + 1 + x.ou) :: (x.all ++ pend)) := by
    have h1 : (({ x with ou := x.ou + (y.b.ws.length + 1), ov := v', ob := x.ob ++ [y.to (x.Y + 1 + x.ou)] } : PH).all ++ pend) = x.all ++ y.to (x.Y + 1 + x.ou) :: pend := by simp [PH.all]
    rw [h1]; exact List.perm_middle
  refine { hp := h.hp, blk := ?_, yrow := ?_, orow := ?_, rows := ?_, yown := ?_, oown := ?_, kp := h.kp.trans' hpush.keeps hS, pbs := ?_, ps := ?_, sub := ?_, ok := ?_, base_ := h.base_, lie := ?_ }
  · have := hpush.blk
    rw [← Int.add_assoc]
    simpa [PH.cells] using this
  · refine ownsRow_keeps h.yrow fun k hk => ?_
    obtain ⟨cur, hc⟩ := ownsRow_type h.yrow hk
    refine (hpush.keeps.block k hc.lt ?_)
    rintro (e | e | e)
    · exact (hc.ne h.blk (by decide)) e
    · exact (hc.ne hpb.st (by decide)) e
    · exact h.rows k hk e
  · have := hpush.row
    simpa [PB.ptr, PB.to] using this
  · intro k e hk
    rcases hpush.own k hk with h2 | h2
    · exact h.rows k e h2
    · obtain ⟨cur, hc⟩ := ownsRow_type h.yrow e; have := hc.lt; omega
  · exact h.yown
  · intro k hk
    rcases hpush.own k hk with h2 | h2
    · exact h.oown k h2
    · exact .inr (Nat.le_trans h.kp.size h2)
  · intro z hz
    rcases (hall z).1 hz with hz | rfl
    · have hz' : z ∈ x.all ++ y :: pend := by
        rcases List.mem_append.1 hz with hz | hz
        · exact List.mem_append_left _ hz
        · exact List.mem_append_right _ (List.mem_cons_of_mem _ hz)
      have hb := h.pbs z hz'
      exact ⟨hold _ _ _ hb.st (fun e => hnd (by rw [← e]; exact List.mem_map_of_mem hz)) (by decide) (by decide), hold _ _ _ hb.wo (hb.wo.ne hpb.st (by decide)) (by decide) (by decide)⟩
    · refine ⟨?_, hold _ _ _ hpb.wo (hpb.wo.ne hpb.st (by decide)) (by decide) (by decide)⟩
      have := hpush.pb
      rw [hf] at this
      simpa [PB.cells, PB.to] using this
  · rw [(hperm.map PB.p).nodup_iff, List.map_cons, List.nodup_cons]
    have hp : (x.all ++ y :: pend).Perm (y :: (x.all ++ pend)) := List.perm_middle
    have := (hp.map PB.p).nodup_iff.1 h.ps
    rwa [List.map_cons, List.nodup_cons] at this
  · intro z hz
    rcases (hall z).1 hz with hz | rfl
    · refine h.sub z ?_
      rcases List.mem_append.1 hz with hz | hz
      · exact List.mem_append_left _ hz
      · exact List.mem_append_right _ (List.mem_cons_of_mem _ hz)
    · exact h.sub y hy
  · have hl : bused [(y.to (x.Y + 1 + x.ou)).b] = (y.b.ws.length : Int) + 1 := by simp [bused, PB.to]
    refine { h.ok with ou := ?_, ou1 := ?_, do_ := ?_ }
    · show x.ou + (y.b.ws.length + 1) = bused ((x.ob ++ [_]).map PB.b)
      rw [List.map_append, bused_append, ← h.ok.ou]
      simp only [List.map_cons, List.map_nil, hl]
    · show x.ou + (y.b.ws.length + 1) ≤ x.O; omega
    · show Dense (x.Y + 1) ((x.ob ++ [_]).map PB.b)
      rw [List.map_append, Dense.append]
      refine ⟨h.ok.do_, ?_, trivial⟩
      rw [← h.ok.ou]; rfl
  · intro z hz
    obtain ⟨c, hc⟩ := h.lie z hz
    by_cases e : z.p = y.p
    · exact ⟨_, by rw [e]; exact hpush.pb⟩
    · exact ⟨c, hold _ _ _ hc e (by decide) (by decide)⟩

/-- A block that waits is put behind the young ones. -/
theorem Half.push_young {w0 : World} {x0 : PH} {W : World} {base : Nat} {x : PH} {y : PB} {pend : List PB} (h : Half w0 x0 W base x (y :: pend)) (hroom : x.yu + (y.b.ws.length + 1) ≤ x.Y) :
    Calls Try.prog 60 #[.pointer (some ⟨x.hp, 0, none⟩), .pointer (some ⟨y.p, 0, none⟩)] W fun e W' => e = .returned (.tuple #[]) ∧ ∃ v', Half w0 x0 W' base { x with yu := x.yu + (y.b.ws.length + 1), yv := v', yb := x.yb ++ [y.to (1 + x.yu)] } pend ∧ Keeps (fun k => k = x.hp ∨ k = y.p ∨ x.yv.ownBlock = some k) W W' ∧ ∀ k, v'.ownBlock = some k → x.yv.ownBlock = some k ∨ W.heap.size ≤ k := by
  have hu0 : 0 ≤ x.yu := h.ok.yu0
  have hc0 : 0 < x.Y := by omega
  have hc1 : x.Y ≤ 100000 := h.ok.Y1
  have hY1 : x.Y ≤ 100000 := h.ok.Y1
  have hY0 : 0 ≤ x.Y := h.ok.Y0
  have hf : x.fy = 1 := h.ok.fy hc0
  have hy : y ∈ x.all ++ y :: pend := by simp
  have hpb := h.pbs y hy
  have hpy : y.p ≠ x.hp := hpb.st.ne h.blk (by decide)
  have hlen : x.yb.length ≤ 100000 := by
    have h1 := bused_len (x.yb.map PB.b); rw [List.length_map, ← h.ok.yu] at h1; omega
  have hnd : y.p ∉ (x.all ++ pend).map PB.p := by
    have hp : (x.all ++ y :: pend).Perm (y :: (x.all ++ pend)) := List.perm_middle
    have := (hp.map PB.p).nodup_iff.1 h.ps
    rw [List.map_cons, List.nodup_cons] at this; exact this.1
  refine (push_raw W base x.hp 0 y.p x.cells y.cells 81 (by decide) h.blk x.fy x.yu y.b.ws.length x.yv x.yb.length (x.yb.map PB.ptr) rfl rfl rfl (by omega) (by omega) hu0 (by omega) hpb.st rfl (some ⟨y.arr, 0, none⟩) y.b.ws.length rfl (by omega) hpy h.yrow hlen (Nat.le_trans h.base_ h.kp.size)).mono ?_
  rintro e W' ⟨rfl, v', hpush⟩
  refine ⟨rfl, v', ?_, hpush.keeps, hpush.own⟩
  have hold : ∀ b cs t, Blk W b cs t → b ≠ y.p → t ≠ 81 → t ≠ 89 → Blk W' b cs t := fun b cs t hb e1 e2 e3 => by
    refine hpush.keeps.blk hb ?_
    rintro (e | e | e)
    · exact (hb.ne h.blk e2) e
    · exact e1 e
    · obtain ⟨cur, hc⟩ := ownsRow_type h.yrow e
      exact (hb.ne hc e3) rfl
  have hS : ∀ k, k < w0.heap.size → (k = x.hp ∨ k = y.p ∨ x.yv.ownBlock = some k) → HalfS x0 k := by
    rintro k hk (e | e | e)
    · exact .inl (e.trans h.hp)
    · obtain ⟨z, hz, hzp, _⟩ := h.sub y hy
      exact .inr (.inl (by rw [e, ← hzp]; exact List.mem_map_of_mem hz))
    · have := h.yown k e; omega
  have hall : ∀ z, z ∈ ({ x with yu := x.yu + (y.b.ws.length + 1), yv := v', yb := x.yb ++ [y.to (1 + x.yu)] } : PH).all ++ pend ↔ z ∈ x.all ++ pend ∨ z = y.to (1 + x.yu) := by
    intro z; simp only [PH.all, List.mem_append, List.mem_singleton]; constructor
    · rintro (((h | h) | h) | h) <;> simp [h]
    · rintro (((h | h) | h) | h) <;> simp [h]
  have hperm : (({ x with yu := x.yu + (y.b.ws.length + 1), yv := v', yb := x.yb ++ [y.to (1 + x.yu)] } : PH).all ++ pend).Perm (y.to (1 + x.yu) :: (x.all ++ pend)) := by
    have h1 : (({ x with yu := x.yu + (y.b.ws.length + 1), yv := v', yb := x.yb ++ [y.to (1 + x.yu)] } : PH).all ++ pend) = x.yb ++ y.to (1 + x.yu) :: (x.ob ++ pend) := by simp [PH.all]
    rw [h1]; refine List.perm_middle.trans (by rw [PH.all, List.append_assoc])
  refine { hp := h.hp, blk := ?_, yrow := ?_, orow := ?_, rows := ?_, yown := ?_, oown := ?_, kp := h.kp.trans' hpush.keeps hS, pbs := ?_, ps := ?_, sub := ?_, ok := ?_, base_ := h.base_, lie := ?_ }
  · have := hpush.blk
    rw [← Int.add_assoc]
    simpa [PH.cells] using this
  · have := hpush.row
    simpa [PB.ptr, PB.to] using this
  · refine ownsRow_keeps h.orow fun k hk => ?_
    obtain ⟨cur, hc⟩ := ownsRow_type h.orow hk
    refine (hpush.keeps.block k hc.lt ?_)
    rintro (e | e | e)
    · exact (hc.ne h.blk (by decide)) e
    · exact (hc.ne hpb.st (by decide)) e
    · exact h.rows k e hk
  · intro k hk e
    rcases hpush.own k hk with h2 | h2
    · exact h.rows k h2 e
    · obtain ⟨cur, hc⟩ := ownsRow_type h.orow e; have := hc.lt; omega
  · intro k hk
    rcases hpush.own k hk with h2 | h2
    · exact h.yown k h2
    · exact Nat.le_trans h.kp.size h2
  · exact h.oown
  · intro z hz
    rcases (hall z).1 hz with hz | rfl
    · have hz' : z ∈ x.all ++ y :: pend := by
        rcases List.mem_append.1 hz with hz | hz
        · exact List.mem_append_left _ hz
        · exact List.mem_append_right _ (List.mem_cons_of_mem _ hz)
      have hb := h.pbs z hz'
      exact ⟨hold _ _ _ hb.st (fun e => hnd (by rw [← e]; exact List.mem_map_of_mem hz)) (by decide) (by decide), hold _ _ _ hb.wo (hb.wo.ne hpb.st (by decide)) (by decide) (by decide)⟩
    · refine ⟨?_, hold _ _ _ hpb.wo (hpb.wo.ne hpb.st (by decide)) (by decide) (by decide)⟩
      have := hpush.pb
      rw [hf] at this
      simpa [PB.cells, PB.to] using this
  · rw [(hperm.map PB.p).nodup_iff, List.map_cons, List.nodup_cons]
    have hp : (x.all ++ y :: pend).Perm (y :: (x.all ++ pend)) := List.perm_middle
    have := (hp.map PB.p).nodup_iff.1 h.ps
    rwa [List.map_cons, List.nodup_cons] at this
  · intro z hz
    rcases (hall z).1 hz with hz | rfl
    · refine h.sub z ?_
      rcases List.mem_append.1 hz with hz | hz
      · exact List.mem_append_left _ hz
      · exact List.mem_append_right _ (List.mem_cons_of_mem _ hz)
    · exact h.sub y hy
  · have hl : bused [(y.to (1 + x.yu)).b] = (y.b.ws.length : Int) + 1 := by simp [bused, PB.to]
    refine { h.ok with yu := ?_, yu1 := ?_, dy := ?_ }
    · show x.yu + (y.b.ws.length + 1) = bused ((x.yb ++ [_]).map PB.b)
      rw [List.map_append, bused_append, ← h.ok.yu]
      simp only [List.map_cons, List.map_nil, hl]
    · show x.yu + (y.b.ws.length + 1) ≤ x.Y; omega
    · show Dense (1) ((x.yb ++ [_]).map PB.b)
      rw [List.map_append, Dense.append]
      refine ⟨h.ok.dy, ?_, trivial⟩
      rw [← h.ok.yu]; rfl
  · intro z hz
    obtain ⟨c, hc⟩ := h.lie z hz
    by_cases e : z.p = y.p
    · exact ⟨_, by rw [e]; exact hpush.pb⟩
    · exact ⟨c, hold _ _ _ hc e (by decide) (by decide)⟩
end Go.Proofs.Ytikigppfnhilhaa
