/- Blocks: all blocks of a heap, copied. -/
import Derived.Test.YtikigppfnhilhaaGPD5
/- Blocks: all blocks of a heap, copied. -/
namespace Go.Proofs.Ytikigppfnhilhaa
open Go.RowKit Go.Instr Go.Shelf
set_option linter.unusedVariables false
set_option linter.unusedSimpArgs false
attribute [local go_sem] Oper.semAt_some

theorem info_Block : (Try.prog.info? 49).map (fun i => (i.zero, i.size, i.bytes)) = some (some (.agg #[.int .i64 0, .int .i64 0, .slice none 0 0]), 3, 40) := by kernel_rfl

/-- A block of a heap. -/
abbrev Of (x : PH) : Type := { y : PB // y ∈ x.all }
theorem allF_stops {w : World} {base : Nat} {x : PH} (h : HRep w base x) (n : Nat) (hn : 1 ≤ n) (bx : Nat) (hbx : w.cell? ⟨bx, 0, none⟩ = some (.pointer (some ⟨x.hp, 0, none⟩))) :
    SeqStopsK (WF none) n Try.prog 66 #[.pointer (some ⟨bx, 0, none⟩)] (fun y : Of x => #[y.1.ptr]) KeepP (fun l => l.map Subtype.val = x.all) (fun _ => True) x.all.length w := by
  intro l J Jx W hW hJ hJx hY h0
  have hx : HRep W base x := h.keeps fun k hk => hW.block k (h.fp_lt k hk)
  obtain ⟨ya, yc, hyv, hy⟩ := rowP_of hx.yrow
  obtain ⟨oa, oc, hov, ho⟩ := rowP_of hx.orow
  have hyl : x.yb.length ≤ 100000 := by
    have h1 := bused_len (x.yb.map PB.b); rw [List.length_map, ← h.ok.yu] at h1; have := h.ok.yu1; have := h.ok.Y1; omega
  have hol : x.ob.length ≤ 100000 := by
    have h1 := bused_len (x.ob.map PB.b); rw [List.length_map, ← h.ok.ou] at h1; have := h.ok.ou1; have := h.ok.O1; omega
  refine (allF_in n hn l bx x.hp ya oa yc oc x.yb x.ob hyl hol (fun L W => ∃ pre : List (Of x), pre.map Subtype.val = L ∧ J pre W) (fun L W => ∃ pre : List (Of x), pre.map Subtype.val = L ∧ Jx pre W) ?_ W ?_ ?_ ?_ hy ho ?_ ⟨[], rfl, h0⟩).mono ?_
  · rintro L y W1 ⟨pre, rfl, hp⟩ hyy
    rw [List.length_map] at hyy
    have hlt : pre.length < x.all.length := (List.getElem?_eq_some_iff.1 hyy).1
    have hm : y ∈ x.all := List.mem_of_getElem? hyy
    obtain ⟨fn, tmps, assign, body, hyl, hR⟩ := hY pre ⟨y, hm⟩ W1 hp hlt
    refine ⟨fn, tmps, assign, body, hyl, hR.mono ?_⟩
    rintro e W' (⟨rfl, h1, h2⟩ | ⟨rfl, h1⟩)
    · exact .inl ⟨rfl, ⟨pre ++ [⟨y, hm⟩], by simp, h1⟩, h2⟩
    · exact .inr ⟨rfl, ⟨pre ++ [⟨y, hm⟩], by simp, h1⟩⟩
  · rw [← hbx]; exact World.cell?_of_block (hW.block bx (World.block_lt_of_cell? w _ hbx))
  · rw [hx.cell 3]; simp [PH.cells, hyv]
  · rw [hx.cell 7]; simp [PH.cells, hov]
  · rintro s A B row ⟨pre, h1, h2⟩ hg hr
    exact ⟨pre, h1, hJ pre A B row h2 hg hr⟩
  · rintro e W' ⟨hv, ⟨ys, rfl, pre, h1, h2⟩ | ⟨L, _, pre, rfl, h2⟩⟩
    · exact ⟨hv, .inl ⟨pre, h1, h2⟩⟩
    · exact ⟨hv, .inr ⟨pre, trivial, h2⟩⟩

theorem all_any (p : Option Addr) (w : World) : Calls Try.prog 37 #[.pointer p] w fun e w' => e = .returned (.func (.func 66) #[] #[.pointer (some ⟨w.heap.size, 0, none⟩)]) ∧ w.alloc (.cells #[.pointer p] 25) = w' := by
  go_enter Try.func37, Try.ntmps37
  go_wp2
  go_ret
  exact ⟨rfl, rfl⟩

/-- Blocks in a slice of one's own: with the values of their words. -/
def bkCells (b : Bk) (v : Value) : List Value := [.int .i64 b.at_, .int .i64 b.kind, v]
def bksCells : List Bk → List Value → List Value
  | b :: bs, v :: vs => bkCells b v ++ bksCells bs vs
  | _, _ => []
theorem bksCells_snoc : ∀ (bs : List Bk) (vs : List Value) (b : Bk) (v : Value), bs.length = vs.length → bksCells (bs ++ [b]) (vs ++ [v]) = bksCells bs vs ++ bkCells b v
  | [], [], b, v, _ => by simp [bksCells]
  | x :: bs, u :: vs, b, v, h => by
    simp only [List.cons_append, bksCells]
    rw [bksCells_snoc bs vs b v (by simpa using h), List.append_assoc]
/-- All words of blocks, in slices of one's own. -/
structure OwnBs (w : World) (n0 : Nat) (v : Value) (bs : List Bk) (vs : List Value) : Prop where
  len : bs.length = vs.length
  row : w.ownsRow n0 49 3 v bs.length (bksCells bs vs)
  ws : ∀ (i : Nat) (b : Bk) (u : Value), bs[i]? = some b → vs[i]? = some u → w.ownsRow n0 33 6 u b.ws.length (flatL b.ws)
def TB : TypeId → Bool := fun t => t == 49 || t == 28
theorem OwnBs.tkeep {T : TypeId → Bool} {w w' : World} {n0 : Nat} {v : Value} {bs : List Bk} {vs : List Value} (h : OwnBs w n0 v bs vs) (hk : TKeep T w w') (h1 : T 49 = false) (h2 : T 33 = false) : OwnBs w' n0 v bs vs :=
  ⟨h.len, hk.row h.row h1, fun i b u hb hu => hk.row (h.ws i b u hb hu) h2⟩

set_option maxRecDepth 100000 in
set_option maxHeartbeats 2000000 in
theorem Blocks_any {w : World} {base : Nat} {x : PH} (h : HRep w base x) :
    Calls Try.prog 12 #[.pointer (some ⟨x.hp, 0, none⟩)] w fun e w' => ∃ v vs, e = .returned v ∧ OwnBs w' w.heap.size v (x.all.map PB.b) vs ∧ Ext w w' := by
  obtain ⟨i0, hi, hz0, hz1, hz2⟩ := info_parts info_Block
  refine (callsIn_wide (n := 9)).1 ?_
  rw [← WF_none]
  have hro : (WF none).round = none := rfl
  have hfn : (WF none).fn 12 := trivial
  have hfa : (WF none).fn 37 := trivial
  refine callsIn_of_wp_marks Try.func12 rfl hfn ?_ hro
  simp only [Try.ntmps12, List.size_toArray, List.length_cons, List.length_nil, Nat.reduceAdd, Nat.reduceSub, Array.replicate_succ, Array.replicate_zero, List.push_toArray, List.append_toArray, List.nil_append, List.cons_append]
  gi_wp2_with (gi_at_call 37; refine (callsIn_WF (all_any _ _)).mono ?_; rintro e w' ⟨rfl, rfl⟩)
  have hT0 : TKeep (fun _ => false) w ((w.alloc (.cells #[.slice none 0 0] 28)).alloc (.cells #[.pointer (some ⟨x.hp, 0, none⟩)] 25)) := ((TKeep.refl _ w).alloc _).alloc _
  have hs1 : ((w.alloc (.cells #[.slice none 0 0] 28)).alloc (.cells #[.pointer (some ⟨x.hp, 0, none⟩)] 25)).heap.size = w.heap.size + 2 := by simp
  have hB1 : Below w.heap.size w ((w.alloc (.cells #[.slice none 0 0] 28)).alloc (.cells #[.pointer (some ⟨x.hp, 0, none⟩)] 25)) := ((Below.refl _ w).alloc (Nat.le_refl _) _).alloc (by simp) _
  have hbo : Blk ((w.alloc (.cells #[.slice none 0 0] 28)).alloc (.cells #[.pointer (some ⟨x.hp, 0, none⟩)] 25)) w.heap.size #[.slice none 0 0] 28 := (Blk.new w _ _).alloc _
  have hbx : ((w.alloc (.cells #[.slice none 0 0] 28)).alloc (.cells #[.pointer (some ⟨x.hp, 0, none⟩)] 25)).cell? ⟨w.heap.size + 1, 0, none⟩ = some (.pointer (some ⟨x.hp, 0, none⟩)) := by
    have := (Blk.new (w.alloc (.cells #[.slice none 0 0] 28)) #[.pointer (some ⟨x.hp, 0, none⟩)] 25).cell 0
    rw [World.size_alloc] at this; exact this
  have hx1 := hT0.hrep rfl rfl rfl rfl h
  have HF := Lib.hid h.fp_lt
  generalize (w.alloc (.cells #[.slice none 0 0] 28)).alloc (.cells #[.pointer (some ⟨x.hp, 0, none⟩)] 25) = w1 at hT0 hs1 hB1 hbo hbx hx1 ⊢
  refine wpIn_rangeFunc_ownG hro (by omega) (gf := 66) (lb := #[.pointer (some ⟨w.heap.size + 1, 0, none⟩)]) rfl trivial (enters_of Try.func66 (by kernel_rfl) rfl)
    (allF_stops hx1 8 (by omega) (w.heap.size + 1) hbx) (fun h k => h.trans k) (fun W l o o' _ hl hc _ => KeepP.putObj hl hc o') (Below.refl _ _) (fun _ => rfl)
    (fun pre W => Below w.heap.size w W ∧ HRep W base x ∧ ∃ v vs, Blk W w.heap.size #[v] 28 ∧ OwnBs W w.heap.size v (pre.map fun y => y.1.b) vs)
    (fun _ _ _ => False)
    ?hI (fun _ _ _ _ _ hs _ _ => hs) ⟨hB1, hx1, .slice none 0 0, [], hbo, rfl, World.ownsRow_nil _ _ _ _, fun i b u hb => by simp at hb⟩
    (fun y => { tmps := #[.pointer (some ⟨x.hp, 0, none⟩), undef, .slice none 0 0, .pointer (some ⟨w.heap.size, 0, none⟩), y.1.ptr, .pointer (some ⟨x.hp, 0, none⟩), .func (.func 66) #[] #[.pointer (some ⟨w.heap.size + 1, 0, none⟩)], y.1.ptr, undef, undef, undef, undef, undef, undef, undef, undef, undef, undef, undef, undef, undef, undef, undef, undef, undef, undef], defers := [] }) ?assign ?body ?done ?stop
  case hI =>
    rintro s A B row ⟨g1, g2, v, vs, g3, g4⟩ hg hr
    have hcell : ∀ k c t, Blk A k c t → Blk B k c t := fun k c t hb => (grownBy_keeps_cells hg (fun r e => (hr r e).2) hb rfl).trans hb
    have hrow : ∀ e sz n v xs, A.ownsRow w.heap.size e sz v n xs → B.ownsRow w.heap.size e sz v n xs := fun e sz n v xs hv => ownsRow_keeps hv fun k hk => by
      obtain ⟨cur, hc⟩ := ownsRow_type hv hk
      exact (hcell _ _ _ hc).trans hc.symm
    refine ⟨g1.grown hg g1.size fun k e => by have := (hr k e).1; omega, g2.keeps fun k hk => ?_, v, vs, hcell _ _ _ g3, g4.len, hrow _ _ _ _ _ g4.row, fun i b u hb hu => hrow _ _ _ _ _ (g4.ws i b u hb hu)⟩
    refine hg.block k (g2.fp_lt k hk) fun e => ?_
    have := (hr k e.symm).1; have := HF.out k hk; omega
  case assign =>
    intro l y W K hK
    gi_wp2
    exact hK
  case body =>
    rintro l pre ⟨y, hy⟩ W ⟨g1, g2, v, vs, g3, g4⟩ hlen
    have hpy := g2.pbs y hy
    have c0 : W.cell? ⟨y.p, 0, none⟩ = some (.int .i64 y.b.at_) := (hpy.st.cell 0).trans rfl
    have c1 : W.cell? ⟨y.p, 1, none⟩ = some (.int .i64 y.b.kind) := (hpy.st.cell 1).trans rfl
    have c2 : W.cell? ⟨y.p, 2, none⟩ = some (.slice (some ⟨y.arr, 0, none⟩) y.b.ws.length y.b.ws.length) := (hpy.st.cell 2).trans rfl
    have cb : W.cell? ⟨w.heap.size, 0, none⟩ = some v := (g3.cell 0).trans rfl
    have hlw : y.b.ws.length ≤ 2000000 := by have := g2.ok.len hy; omega
    have hlp : pre.length ≤ 200000 := by
      have h1 := bused_len (x.yb.map PB.b); rw [List.length_map, ← g2.ok.yu] at h1; have := g2.ok.yu1; have := g2.ok.Y1
      have h2 := bused_len (x.ob.map PB.b); rw [List.length_map, ← g2.ok.ou] at h2; have := g2.ok.ou1; have := g2.ok.O1
      have : x.all.length = x.yb.length + x.ob.length := by simp [PH.all]
      omega
    have HS : Hid (W.drew.cell? ⟨w.heap.size, 0, none⟩ = some v ∧ W.drew.cell? ⟨y.p, 0, none⟩ = some (.int .i64 y.b.at_) ∧ W.drew.cell? ⟨y.p, 1, none⟩ = some (.int .i64 y.b.kind) ∧ W.drew.cell? ⟨y.p, 2, none⟩ = some (.slice (some ⟨y.arr, 0, none⟩) y.b.ws.length y.b.ws.length)) := ⟨cb, c0, c1, c2⟩
    have HI : Hid (Below w.heap.size w W.drew ∧ HRep W.drew base x ∧ Blk W.drew w.heap.size #[v] 28 ∧ OwnBs W.drew w.heap.size v (pre.map fun y => y.1.b) vs) := ⟨g1.drew, g2.drew, g3.drew, g4.tkeep (TKeep.refl (fun _ => false) W).drew rfl rfl⟩
    have HT : Hid (TKeep TB W W.drew) := Lib.hid (TKeep.refl _ W).drew
    clear c0 c1 c2 cb g1 g2 g3 g4 hpy hlen hT0 hs1 hB1 hbo hbx hx1 h
    change Code.wpIn (WF (some l)) 7 _ _ _ _ _
    unfold PB.ptr
    gi_wp2
    refine region_S (fun V => V.cell? ⟨w.heap.size, 0, none⟩ = some v ∧ V.cell? ⟨y.p, 0, none⟩ = some (.int .i64 y.b.at_) ∧ V.cell? ⟨y.p, 1, none⟩ = some (.int .i64 y.b.kind) ∧ V.cell? ⟨y.p, 2, none⟩ = some (.slice (some ⟨y.arr, 0, none⟩) y.b.ws.length y.b.ws.length)) 17 (by kernel_rfl) ?_
    generalize W.drew = W0 at HS HI HT ⊢
    refine anyS_quiet (a2 := ?a0) 0 rfl rfl rfl (by kernel_rfl) (by kernel_rfl) (by kernel_rfl) (by kernel_rfl) (by kernel_rfl) (by kernel_rfl) (fun _ _ _ _ h => h) HS.out ?h0 ?k0
    case h0 => intro W hW K hK; obtain ⟨c0, c1, c2, c3⟩ := hW; go_simp; exact hK
    refine anyS_quiet (a2 := ?a1) 1 rfl rfl rfl (by kernel_rfl) (by kernel_rfl) (by kernel_rfl) (by kernel_rfl) (by kernel_rfl) (by kernel_rfl) (fun _ _ _ _ h => h) HS.out ?h1 ?k1
    case h1 => intro W hW K hK; obtain ⟨c0, c1, c2, c3⟩ := hW; go_simp; exact hK
    refine anyS_quiet (a2 := ?a2) 2 rfl rfl rfl (by kernel_rfl) (by kernel_rfl) (by kernel_rfl) (by kernel_rfl) (by kernel_rfl) (by kernel_rfl) (fun _ _ _ _ h => h) HS.out ?h2 ?k2
    case h2 => intro W hW K hK; obtain ⟨c0, c1, c2, c3⟩ := hW; go_simp; exact hK
    refine anyS_quiet (a2 := ?a3) 3 rfl rfl rfl (by kernel_rfl) (by kernel_rfl) (by kernel_rfl) (by kernel_rfl) (by kernel_rfl) (by kernel_rfl) (fun _ _ _ _ h => h) HS.out ?h3 ?k3
    case h3 => intro W hW K hK; obtain ⟨c0, c1, c2, c3⟩ := hW; go_simp; exact hK
    refine anyS_quiet (a2 := ?a4) 4 rfl rfl rfl (by kernel_rfl) (by kernel_rfl) (by kernel_rfl) (by kernel_rfl) (by kernel_rfl) (by kernel_rfl) (fun _ _ _ _ h => h) HS.out ?h4 ?k4
    case h4 => intro W hW K hK; obtain ⟨c0, c1, c2, c3⟩ := hW; go_simp; exact hK
    refine anyS_quiet (a2 := ?a5) 5 rfl rfl rfl (by kernel_rfl) (by kernel_rfl) (by kernel_rfl) (by kernel_rfl) (by kernel_rfl) (by kernel_rfl) (fun _ _ _ _ h => h) HS.out ?h5 ?k5
    case h5 => intro W hW K hK; obtain ⟨c0, c1, c2, c3⟩ := hW; go_simp; exact hK
    refine anyS_quiet (a2 := ?a6) 6 rfl rfl rfl (by kernel_rfl) (by kernel_rfl) (by kernel_rfl) (by kernel_rfl) (by kernel_rfl) (by kernel_rfl) (fun _ _ _ _ h => h) HS.out ?h6 ?k6
    case h6 => intro W hW K hK; obtain ⟨c0, c1, c2, c3⟩ := hW; go_simp; exact hK
    refine anyS_quiet (a2 := ?a7) 7 rfl rfl rfl (by kernel_rfl) (by kernel_rfl) (by kernel_rfl) (by kernel_rfl) (by kernel_rfl) (by kernel_rfl) (fun _ _ _ _ h => h) HS.out ?h7 ?k7
    case h7 => intro W hW K hK; obtain ⟨c0, c1, c2, c3⟩ := hW; go_simp; exact hK
    refine anyS_quiet (a2 := ?a8) 8 rfl rfl rfl (by kernel_rfl) (by kernel_rfl) (by kernel_rfl) (by kernel_rfl) (by kernel_rfl) (by kernel_rfl) (fun _ _ _ _ h => h) HS.out ?h8 ?k8
    case h8 => intro W hW K hK; obtain ⟨c0, c1, c2, c3⟩ := hW; go_simp; exact hK
    refine anyS_quiet (a2 := ?a9) 9 rfl rfl rfl (by kernel_rfl) (by kernel_rfl) (by kernel_rfl) (by kernel_rfl) (by kernel_rfl) (by kernel_rfl) (fun _ _ _ _ h => h) HS.out ?h9 ?k9
    case h9 => intro W hW K hK; obtain ⟨c0, c1, c2, c3⟩ := hW; go_simp; exact hK
    refine anyS_quiet (a2 := ?a10) 10 rfl rfl rfl (by kernel_rfl) (by kernel_rfl) (by kernel_rfl) (by kernel_rfl) (by kernel_rfl) (by kernel_rfl) (fun _ _ _ _ h => h) HS.out ?h10 ?k10
    case h10 => intro W hW K hK; obtain ⟨c0, c1, c2, c3⟩ := hW; go_simp; exact hK
    refine anyS_quiet (a2 := ?a11) 11 rfl rfl rfl (by kernel_rfl) (by kernel_rfl) (by kernel_rfl) (by kernel_rfl) (by kernel_rfl) (by kernel_rfl) (fun _ _ _ _ h => h) HS.out ?h11 ?k11
    case h11 => intro W hW K hK; obtain ⟨c0, c1, c2, c3⟩ := hW; go_simp; exact hK
    refine anyS_quiet (a2 := ?a12) 12 rfl rfl rfl (by kernel_rfl) (by kernel_rfl) (by kernel_rfl) (by kernel_rfl) (by kernel_rfl) (by kernel_rfl) (fun _ _ _ _ h => h) HS.out ?h12 ?k12
    case h12 => intro W hW K hK; obtain ⟨c0, c1, c2, c3⟩ := hW; go_simp; exact hK
    refine anyS_only 13 rfl (by kernel_rfl) ?_
    gi_wp2_with (gi_at_call 38; refine (callsIn_WF (CloneW_any (rdW_of_pb (HI.out.2.1.pbs y hy)) hlw)).mono ?_; rintro e W1 ⟨u, rfl, hcl, hext⟩)
    have hn0 : w.heap.size ≤ W0.heap.size := HI.out.1.size
    have HI1 : Hid (Below w.heap.size w W1 ∧ HRep W1 base x ∧ Blk W1 w.heap.size #[v] 28 ∧ OwnBs W1 w.heap.size v (pre.map fun y => y.1.b) vs) :=
      ⟨HI.out.1.trans (Ext.below hext hn0), HI.out.2.1.ext hext, hext.blk HI.out.2.2.1 id, HI.out.2.2.2.tkeep (TKeep.of_ext (T := fun _ => false) hext) rfl rfl⟩
    have HT1 : Hid (TKeep TB W W1) := Lib.hid (HT.out.trans (TKeep.of_ext hext))
    have HS1 : Hid (W1.cell? ⟨w.heap.size, 0, none⟩ = some v ∧ W1.cell? ⟨y.p, 0, none⟩ = some (.int .i64 y.b.at_) ∧ W1.cell? ⟨y.p, 1, none⟩ = some (.int .i64 y.b.kind) ∧ W1.cell? ⟨y.p, 2, none⟩ = some (.slice (some ⟨y.arr, 0, none⟩) y.b.ws.length y.b.ws.length)) :=
      ⟨Ext.cell hext HS.out.1, Ext.cell hext HS.out.2.1, Ext.cell hext HS.out.2.2.1, Ext.cell hext HS.out.2.2.2⟩
    obtain ⟨ua, uc, rfl⟩ := own_slice hcl
    have Hcl := Lib.hid (ownsRow_base hcl hn0)
    have hn1 : w.heap.size ≤ W1.heap.size := HI1.out.1.size
    clear hcl hext HI HT HS hn0
    refine And.intro (.inr HS1.out) ?_
    refine anyS_only 14 rfl (by kernel_rfl) ?_
    gi_wp2
    refine And.intro (.inr HS1.out) ?_
    refine anyS_only 15 rfl (by kernel_rfl) ?_
    gi_wp2
    refine And.intro (.inr ⟨cell_allocO HS1.out.1 _, cell_allocO HS1.out.2.1 _, cell_allocO HS1.out.2.2.1 _, cell_allocO HS1.out.2.2.2 _⟩) ?_
    refine anyS_only 16 rfl (by kernel_rfl) ?_
    have HO1 := HI1.out.2.2.2.tkeep (((TKeep.refl (fun _ => false) W1).alloc (.cells #[.int .i64 y.b.at_, .int .i64 y.b.kind, .slice ua y.b.ws.length uc] 49))) rfl rfl
    have HO := Lib.hid HO1
    clear HO1
    refine wpListIn_append_fresh rfl _ _ 28 rfl w.heap.size 49 i0 _ 3 40 Try.underlying28 hi hz0 hz1 hz2 rfl (by decide) v _ _ rfl HO.out.row ⟨W1.heap.size, 0, none⟩ 1 1 (bkCells y.b (.slice ua y.b.ws.length uc)) rfl rfl ?c1 ?c2 ?c3 ?c4 ?c5 ?_
    case c1 => exact cells_new W1 (bkCells y.b (.slice ua y.b.ws.length uc)) 49
    case c2 => simp [bkCells, Value.oneCell']
    case c3 => simp only [List.length_map]; unfold maxLen; omega
    case c4 => simp only [List.length_map]; omega
    case c5 => simp; omega
    intro v2 W3 hown hgrow _ _
    have t1 : TKeep (fun t => t == 49) W1 W3 := ((TKeep.refl _ W1).alloc _).grown hgrow HO.out.row rfl
    have hbo3 := t1.blk HI1.out.2.2.1 rfl
    obtain ⟨g', cap', rfl⟩ := ownsRow_succ hown
    have cb3 : W3.cell? ⟨w.heap.size, 0, none⟩ = some v := (hbo3.cell 0).trans rfl
    have fb3 := hbo3.frozen 0
    have hB3 : Below w.heap.size w W3 := (HI1.out.1.alloc hn1 _).grown hgrow (by simp; omega) fun k e => ((HO.out.row.lt k e).1)
    have HB3 := Lib.hid hB3
    have T1 := Lib.hid t1
    have Hown := Lib.hid hown
    have Hbo3 := Lib.hid hbo3
    have hp3 := (t1.hrep rfl rfl rfl rfl HI1.out.2.1).pbs y hy
    have HS3 : Hid (W3.cell? ⟨w.heap.size, 0, none⟩ = some v ∧ W3.cell? ⟨y.p, 0, none⟩ = some (.int .i64 y.b.at_) ∧ W3.cell? ⟨y.p, 1, none⟩ = some (.int .i64 y.b.kind) ∧ W3.cell? ⟨y.p, 2, none⟩ = some (.slice (some ⟨y.arr, 0, none⟩) y.b.ws.length y.b.ws.length)) :=
      ⟨cb3, (hp3.st.cell 0).trans rfl, (hp3.st.cell 1).trans rfl, (hp3.st.cell 2).trans rfl⟩
    clear hown hgrow t1 hB3 hbo3 HO hp3
    gi_wp2
    refine And.intro (.inr HS3.out) ?_
    clear HS3
    refine anyS_only 17 rfl (by kernel_rfl) ?_
    gi_wp2
    refine anyS_done (by kernel_rfl) ?_ _
    have t2 : TKeep TB W1 (W3.setCell ⟨w.heap.size, 0, none⟩ (.slice (some ⟨g', 0, none⟩) (pre.length + 1) cap')) := (T1.out.mono fun t ht => by simp only [TB]; rw [ht]; rfl).setCell (p := ⟨w.heap.size, 0, none⟩) Hbo3.out rfl _
    have t3 := HT1.out.trans t2
    gi_wp2
    refine ⟨t3.others.from _, t3.keepP rfl rfl, HB3.out.setCell (p := ⟨w.heap.size, 0, none⟩) (Nat.le_refl _) _, t2.hrep rfl rfl rfl rfl HI1.out.2.1, _, vs ++ [.slice ua y.b.ws.length uc], Hbo3.out.set 0 _, ?_, ?_, ?_⟩
    · simpa using HI1.out.2.2.2.len
    · rw [List.map_append]
      have := ownsRow_set Hown.out (a := ⟨w.heap.size, 0, none⟩) Hbo3.out (by decide) (.slice (some ⟨g', 0, none⟩) (pre.length + 1) cap')
      rw [← bksCells_snoc _ _ _ _ HI1.out.2.2.2.len] at this
      simpa using this
    · intro i b u hb hu
      rw [List.map_append, List.getElem?_append] at hb
      rw [List.getElem?_append, ← HI1.out.2.2.2.len] at hu
      split at hb
      · rename_i hlt
        rw [if_pos hlt] at hu
        exact t2.row (HI1.out.2.2.2.ws i b u hb hu) rfl
      · rename_i hlt
        rw [if_neg hlt] at hu
        simp only [List.map_cons, List.map_nil] at hb
        have h0 : i - (pre.map fun y => y.1.b).length = 0 := by
          rcases Nat.eq_zero_or_pos (i - (pre.map fun y => y.1.b).length) with h | h
          · exact h
          · rw [List.getElem?_eq_none (Nat.le_trans (by simp) h)] at hb; cases hb
        rw [h0] at hb hu
        simp at hb hu
        subst hb; subst hu
        exact t2.row Hcl.out rfl
  case done =>
    rintro D l W hD hl ⟨g1, g2, v, vs, g3, g4⟩ hK
    have cb : W.cell? ⟨w.heap.size, 0, none⟩ = some v := (g3.cell 0).trans rfl
    obtain ⟨a, c, rfl⟩ := own_slice g4.row
    gi_wp2
    refine ⟨by simp, .inl ⟨_, _, rfl, run_takeDeferred hK, ?_⟩⟩
    refine ⟨_, results_tmp rfl _ _ _, _, vs, rfl, ?_, ?_⟩
    · have hm : l.map (fun y => y.1.b) = x.all.map PB.b := by
        have := congrArg (List.map PB.b) hl
        rw [List.map_map] at this; exact this
      rw [← hm]
      exact ⟨g4.len, by simpa using ownsRow_putObj hK rfl (.deferred none) g4.row, fun i b u hb hu => ownsRow_putObj hK rfl _ (g4.ws i b u hb hu)⟩
    · exact Keeps.of_below (belowK_t g1 (belowK_b (w := w) (Nat.le_refl _) W D _ _ (by omega) hK rfl rfl)) _ fun k hk hB => by omega
  case stop => exact fun D c pre W _ _ h => h.elim
end Go.Proofs.Ytikigppfnhilhaa
