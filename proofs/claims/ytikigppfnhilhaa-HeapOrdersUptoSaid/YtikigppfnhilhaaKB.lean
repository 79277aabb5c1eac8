/- pairs.match: two words that correspond. -/
import Derived.Test.YtikigppfnhilhaaKA
namespace Go.Proofs.Ytikigppfnhilhaa
open Go.RowKit Go.Instr
set_option linter.unusedVariables false
set_option linter.unusedSimpArgs false
attribute [local go_sem] Oper.semAt_some

theorem info_int : (Try.prog.info? 3).map (fun i => (i.zero, i.size, i.bytes)) = some (some (.int .i64 0), 1, 8) := by kernel_rfl

theorem run_eqW (u v : Wd) (w : World) : (binOp .eql 33 u.val v.val).run Try.prog w = .ok (.bool (decide (u = v))) w := by
  obtain ⟨a1, a2, a3, a4, a5, a6⟩ := u
  obtain ⟨b1, b2, b3, b4, b5, b6⟩ := v
  unfold Wd.val Wd.cells
  simp only [run_eql_struct]
  simp [go_sem]
  have hb : (a4.toList = b4.toList) = (a4 = b4) := propext ⟨bytes_inj, fun e => by rw [e]⟩
  simp only [hb]
  by_cases h1 : a1 = b1 <;> by_cases h2 : a2 = b2 <;> by_cases h3 : a3 = b3 <;> by_cases h4 : a4 = b4 <;> by_cases h5 : a5 = b5 <;> by_cases h6 : a6 = b6 <;> simp [h1, h2, h3, h4, h5, h6]

/-- Addresses that correspond, in memory. -/
structure PRep (w : World) (base bp : Nat) (va vb : Value) (A B : List Int) : Prop where
  blk : Blk w bp #[va, vb] 94
  ra : w.ownsRow base 3 1 va A.length (A.map (Value.int .i64))
  rb : w.ownsRow base 3 1 vb B.length (B.map (Value.int .i64))
  dis : ∀ k, va.ownBlock = some k → vb.ownBlock = some k → False
  hb : base ≤ bp
theorem PRep.keeps {w w' : World} {base bp : Nat} {va vb : Value} {A B : List Int} (h : PRep w base bp va vb A B) (hk : ∀ k, (k = bp ∨ va.ownBlock = some k ∨ vb.ownBlock = some k) → w'.heap[k]? = w.heap[k]?) : PRep w' base bp va vb A B :=
  ⟨(hk bp (.inl rfl)).trans h.blk, ownsRow_keeps h.ra fun k e => hk k (.inr (.inl e)), ownsRow_keeps h.rb fun k e => hk k (.inr (.inr e)), h.dis, h.hb⟩
theorem PRep.lt {w : World} {base bp : Nat} {va vb : Value} {A B : List Int} (h : PRep w base bp va vb A B) {k : Nat} (hk : k = bp ∨ va.ownBlock = some k ∨ vb.ownBlock = some k) : k < w.heap.size := by
  rcases hk with rfl | hk | hk
  · exact h.blk.lt
  · exact (h.ra.lt k hk).2
  · exact (h.rb.lt k hk).2
theorem PRep.ext {w w' : World} {base bp : Nat} {va vb : Value} {A B : List Int} (h : PRep w base bp va vb A B) (hx : Ext w w') : PRep w' base bp va vb A B :=
  h.keeps fun k hk => hx.block k (h.lt hk) id
theorem PRep.get {w : World} {base bp : Nat} {va vb : Value} {A B : List Int} (h : PRep w base bp va vb A B) {i : Nat} {a : Int} (ha : A[i]? = some a) : ∃ g c, va = .slice (some ⟨g, 0, none⟩) A.length c ∧ w.cell? ⟨g, i, none⟩ = some (.int .i64 a) := by
  rcases h.ra.2 with ⟨hv, hl⟩ | ⟨g, c, cur, hv, _⟩
  · rw [List.length_eq_zero_iff.1 hl] at ha; simp at ha
  · refine ⟨g, c, hv, ?_⟩
    have := h.ra.cells (g := g) (by rw [hv]; rfl) i (.int .i64 a) (by rw [List.getElem?_map, ha]; rfl)
    rw [show (⟨g, 0, none⟩ : Addr).add i = ⟨g, i, none⟩ from by unfold Addr.add; split <;> simp_all] at this
    exact this
theorem PRep.swap {w : World} {base bp : Nat} {va vb : Value} {A B : List Int} (h : PRep w base bp va vb A B) {i : Nat} {b : Int} (hb : B[i]? = some b) : ∃ g c, vb = .slice (some ⟨g, 0, none⟩) B.length c ∧ w.cell? ⟨g, i, none⟩ = some (.int .i64 b) := by
  rcases h.rb.2 with ⟨hv, hl⟩ | ⟨g, c, cur, hv, _⟩
  · rw [List.length_eq_zero_iff.1 hl] at hb; simp at hb
  · refine ⟨g, c, hv, ?_⟩
    have := h.rb.cells (g := g) (by rw [hv]; rfl) i (.int .i64 b) (by rw [List.getElem?_map, hb]; rfl)
    rw [show (⟨g, 0, none⟩ : Addr).add i = ⟨g, i, none⟩ from by unfold Addr.add; split <;> simp_all] at this
    exact this

/-- Two words correspond already, or may be added. -/
def Fits (A B : List Int) (u v : Wd) : Prop := (refW u = 0 ∧ v = u) ∨ (refW u ≠ 0 ∧ refW v ≠ 0 ∧ v = { u with a := v.a } ∧ ∀ (i : Nat) (a b : Int), A[i]? = some a → B[i]? = some b → (a = u.a ↔ b = v.a))
def addA (A : List Int) (u : Wd) : List Int := if refW u = 0 ∨ u.a ∈ A then A else A ++ [u.a]
def addB (A B : List Int) (u v : Wd) : List Int := if refW u = 0 ∨ u.a ∈ A then B else B ++ [v.a]

def MatchR (w : World) (base bp : Nat) (A B : List Int) (u v : Wd) (e : Ending) (w' : World) : Prop :=
  ∃ n va' vb', e = .returned (.tuple #[.bool true, .bool n]) ∧ PRep w' base bp va' vb' (addA A u) (addB A B u v) ∧ Below base w w'
theorem run_neqR (m x : Int) (w : World) : (binOp .neq 31 (.agg #[.int .i64 m, .int .i64 x]) (.agg #[.int .i64 m, .int .i64 x])).run Try.prog w = .ok (.bool false) w := by
  simp only [run_neq_struct]
  simp [go_sem]

set_option maxRecDepth 100000 in
set_option maxHeartbeats 16000000 in
theorem match_any {w : World} {base bp : Nat} {va vb : Value} {A B : List Int} (h : PRep w base bp va vb A B) (hl : A.length = B.length) (hn : A.length ≤ 1000000) (hbase : base ≤ w.heap.size) (u v : Wd) (hf : Fits A B u v) :
    Calls Try.prog 67 #[.pointer (some ⟨bp, 0, none⟩), u.val, v.val] w (MatchR w base bp A B u v) := by
  have HP := Lib.hid h; have HL := Lib.hid hl; have HB := Lib.hid hbase
  clear h hl hbase
  by_cases hr : refW u = 0
  · have hv : v = u := by
      rcases hf with h | h
      · exact h.2
      · exact (h.1 hr).elim
    subst hv
    have HR : Hid (addA A v = A ∧ addB A B v v = B) := Lib.hid ⟨if_pos (.inl hr), if_pos (.inl hr)⟩
    have Hr : Hid (v.tag = 1 → v.a = 0) := Lib.hid (by intro h; unfold refW at hr; rw [if_pos h] at hr; exact hr)
    have hne := run_eqW v v
    have HM : Hid (∀ w' n, Ext w w' → MatchR w base bp A B v v (.returned (.tuple #[.bool true, .bool n])) w') := Lib.hid fun w' n hx =>
      ⟨n, va, vb, rfl, by rw [HR.out.1, HR.out.2]; exact HP.out.ext hx, hx.below HB.out⟩
    generalize hM : MatchR w base bp A B v v = M at HM ⊢
    have HMM := Lib.hid hM
    clear hf hr hM
    unfold Wd.val Wd.cells at hne ⊢
    go_enter Try.func67, Try.ntmps67
    go_wp2_with fail
    all_goals first
      | exact absurd (Hr.out ‹_›) (by simpa using ‹(v.a == 0) = false›)
      | exact HM.out _ _ (((Ext.refl w).alloc _).alloc _)
  · obtain ⟨h1, h2⟩ : u.tag = 1 ∧ u.a ≠ 0 := by
      unfold refW at hr
      split at hr
      · exact ⟨‹_›, hr⟩
      · exact (hr rfl).elim
    have hf' : refW v ≠ 0 ∧ v = { u with a := v.a } ∧ ∀ (i : Nat) (a b : Int), A[i]? = some a → B[i]? = some b → (a = u.a ↔ b = v.a) := by
      rcases hf with h | h
      · exact (hr h.1).elim
      · exact h.2
    obtain ⟨t, a, b, tx, mn, ex⟩ := u
    obtain ⟨t', c, b', tx', mn', ex'⟩ := v
    obtain ⟨h3, h4, h5⟩ := hf'
    injection h4 with e1 _ e2 e3 e4 e5
    simp only at h1 h2 h5
    subst h1; subst e1; subst e2; subst e3; subst e4; subst e5
    have hc : c ≠ 0 := h3
    have hA : addA A ⟨1, a, b', tx', mn', ex'⟩ = if a ∈ A then A else A ++ [a] := by
      unfold addA; simp only [hr, false_or]
    have hB : addB A B ⟨1, a, b', tx', mn', ex'⟩ ⟨1, c, b', tx', mn', ex'⟩ = if a ∈ A then B else B ++ [c] := by
      unfold addB; simp only [hr, false_or]
    have HAA := Lib.hid hA; have HBB := Lib.hid hB; have H5 := Lib.hid h5
    have g2 : (a == 0) = false := by simpa using h2
    have g3 : (c == 0) = false := by simpa using hc
    have hne := run_neqR mn' ex'
    generalize hM : MatchR w base bp A B ⟨1, a, b', tx', mn', ex'⟩ ⟨1, c, b', tx', mn', ex'⟩ = M
    have HM := Lib.hid hM
    clear hf hr h2 h3 h5 hc hA hB hM
    unfold Wd.val Wd.cells
    go_enter Try.func67, Try.ntmps67
    go_wp2_with fail
    obtain ⟨sz, hsz⟩ : ∃ sz, w.heap.size = sz := ⟨_, rfl⟩
    obtain ⟨W1, hW⟩ : ∃ W1, (w.alloc (.cells #[.int .i64 1, .int .i64 a, .int .i64 b', .string tx', .int .i64 mn', .int .i64 ex'] 33)).alloc (.cells #[.int .i64 1, .int .i64 c, .int .i64 b', .string tx', .int .i64 mn', .int .i64 ex'] 33) = W1 := ⟨_, rfl⟩
    have HU : Hid (Blk W1 sz #[.int .i64 1, .int .i64 a, .int .i64 b', .string tx', .int .i64 mn', .int .i64 ex'] 33) := Lib.hid (by rw [← hW, ← hsz]; exact (Blk.new w _ _).alloc _)
    have HV : Hid (Blk W1 (sz + 1) #[.int .i64 1, .int .i64 c, .int .i64 b', .string tx', .int .i64 mn', .int .i64 ex'] 33) := Lib.hid (by rw [← hW, ← hsz]; have := Blk.new (w.alloc (.cells #[.int .i64 1, .int .i64 a, .int .i64 b', .string tx', .int .i64 mn', .int .i64 ex'] 33)) #[.int .i64 1, .int .i64 c, .int .i64 b', .string tx', .int .i64 mn', .int .i64 ex'] 33; rw [World.size_alloc] at this; exact this)
    have HX : Hid (Ext w W1) := Lib.hid (by rw [← hW]; exact ((Ext.refl w).alloc _).alloc _)
    have HPX : Hid (PRep W1 base bp va vb A B) := Lib.hid (HP.out.ext HX.out)
    rw [hW, hsz]
    have Hsz := Lib.hid hsz
    clear hW hsz HP
    go_loopw [8] (fun i wr => ∃ k : Nat, k ≤ A.length ∧ i = .int .i64 k ∧ Hid (Ext w wr) ∧ Hid (PRep wr base bp va vb A B) ∧ Hid (∀ a' ∈ A.take k, a' ≠ a) ∧ Hid (Blk wr sz #[.int .i64 1, .int .i64 a, .int .i64 b', .string tx', .int .i64 mn', .int .i64 ex'] 33) ∧ Hid (Blk wr (sz + 1) #[.int .i64 1, .int .i64 c, .int .i64 b', .string tx', .int .i64 mn', .int .i64 ex'] 33)) (fun i wr => A.length - (intOf i).toNat)
    case atStart => exact ⟨0, Nat.zero_le _, rfl, HX, HPX, Lib.hid (fun b hb => by simp at hb), HU, HV⟩
    case round =>
      clear HX HPX HU HV
      obtain ⟨k, hk, rfl, HX, HPX, HT, HU, HV⟩ := hrel
      have c0 : wr.cell? ⟨bp, 0, none⟩ = some va := (HPX.out.blk.cell 0).trans rfl
      have c1 : wr.cell? ⟨bp, 1, none⟩ = some vb := (HPX.out.blk.cell 1).trans rfl
      by_cases hlt : k < A.length
      · obtain ⟨a1, ha1⟩ : ∃ a1, A[k]? = some a1 := ⟨_, List.getElem?_eq_getElem hlt⟩
        obtain ⟨b1, hb1⟩ : ∃ b1, B[k]? = some b1 := ⟨_, List.getElem?_eq_getElem (HL.out ▸ hlt)⟩
        have hiff := H5.out k a1 b1 ha1 hb1
        obtain ⟨ga, ca, rfl, d0⟩ := HPX.out.get ha1
        obtain ⟨gb, cb, rfl, d1⟩ := HPX.out.swap hb1
        have HA1 := Lib.hid ha1; have HB1 := Lib.hid hb1
        have hlt' : k < B.length := HL.out ▸ hlt
        have e1 : wr.cell? ⟨sz, 1, none⟩ = some (.int .i64 a) := (HU.out.cell 1).trans rfl
        have e2 : wr.cell? ⟨sz + 1, 1, none⟩ = some (.int .i64 c) := (HV.out.cell 1).trans rfl
        clear ha1 hb1
        by_cases hc : a1 = a
        · have hc2 := hiff.1 hc
          clear hiff
          subst hc; subst hc2
          have hn2 : B.length ≤ 1000000 := by rw [← HL.out]; exact hn
          go_wp2_with fail
          go_region
          go_wp2_with fail
          go_region
          go_wp2_with fail
          have hm : a1 ∈ A := List.mem_of_getElem? HA1.out
          rw [← HM.out]
          refine ⟨false, .slice (some ⟨ga, 0, none⟩) A.length ca, .slice (some ⟨gb, 0, none⟩) B.length cb, rfl, ?_, Keeps.below HX.out.drew.drew HB.out fun _ h => h.elim⟩
          rw [HAA.out, HBB.out, if_pos hm, if_pos hm]
          exact HPX.out.ext (Ext.refl _).drew.drew
        · have hcb : ¬ b1 = c := fun e => hc (hiff.2 e)
          have g4 : (a1 == a) = false := by simpa using hc
          have g5 : (b1 == c) = false := by simpa using hcb
          have Hc := Lib.hid hc
          clear hiff hc hcb
          have hn2 : B.length ≤ 1000000 := by rw [← HL.out]; exact hn
          go_wp2_with fail
          go_region
          go_wp2_with fail
          refine ⟨⟨k + 1, by omega, by simp, Lib.hid HX.out.drew, Lib.hid (HPX.out.ext (Ext.refl _).drew), Lib.hid fun x hx => ?_, HU, HV⟩, by simp only [intOf]; omega⟩
          rw [List.take_add_one, HA1.out] at hx
          rcases List.mem_append.1 hx with hx | hx
          · exact HT.out x hx
          · simp at hx; subst hx; exact Hc.out
      · have hkn : k = A.length := by omega
        subst hkn
        have HnA : Hid (a ∉ A) := Lib.hid fun hm => HT.out a (by rw [List.take_length]; exact hm) rfl
        obtain ⟨aa, ac, rfl⟩ := own_slice HPX.out.ra
        obtain ⟨ba, bc, rfl⟩ := own_slice HPX.out.rb
        have e1 : wr.cell? ⟨sz, 1, none⟩ = some (.int .i64 a) := (HU.out.cell 1).trans rfl
        clear HT
        obtain ⟨i0, hi, hz0, hz1, hz2⟩ := info_parts info_int
        go_wp2_with fail
        have HS : Hid (wr.drew.cell? ⟨bp, 0, none⟩ = some (.slice aa A.length ac) ∧ wr.drew.cell? ⟨sz, 1, none⟩ = some (.int .i64 a)) := Lib.hid ⟨c0, e1⟩
        have HP2 := Lib.hid (HPX.out.ext (Ext.refl _).drew)
        have HX2 := Lib.hid HX.out.drew
        have HU2 : Hid (Blk wr.drew sz #[.int .i64 1, .int .i64 a, .int .i64 b', .string tx', .int .i64 mn', .int .i64 ex'] 33) := HU
        have HV2 : Hid (Blk wr.drew (sz + 1) #[.int .i64 1, .int .i64 c, .int .i64 b', .string tx', .int .i64 mn', .int .i64 ex'] 33) := HV
        clear c0 c1 e1 HX HPX HU HV
        refine region_S_plain (n := 3) (fun V => V.cell? ⟨bp, 0, none⟩ = some (.slice aa A.length ac) ∧ V.cell? ⟨sz, 1, none⟩ = some (.int .i64 a)) 11 (by kernel_rfl) ?_
        generalize wr.drew = w0 at HS HP2 HX2 HU2 HV2 ⊢
        refine anyS_quiet (a2 := ?a0) 0 rfl rfl rfl (by kernel_rfl) (by kernel_rfl) (by kernel_rfl) (by kernel_rfl) (by kernel_rfl) (by kernel_rfl) (fun _ _ _ _ h => h) HS.out ?h0 ?k0
        case h0 => intro W hW K hK; obtain ⟨c0, e1⟩ := hW; go_simp; exact hK
        refine anyS_quiet (a2 := ?a1) 1 rfl rfl rfl (by kernel_rfl) (by kernel_rfl) (by kernel_rfl) (by kernel_rfl) (by kernel_rfl) (by kernel_rfl) (fun _ _ _ _ h => h) HS.out ?h1 ?k1
        case h1 => intro W hW K hK; obtain ⟨c0, e1⟩ := hW; go_simp; exact hK
        refine anyS_quiet (a2 := ?a2) 2 rfl rfl rfl (by kernel_rfl) (by kernel_rfl) (by kernel_rfl) (by kernel_rfl) (by kernel_rfl) (by kernel_rfl) (fun _ _ _ _ h => h) HS.out ?h2 ?k2
        case h2 => intro W hW K hK; obtain ⟨c0, e1⟩ := hW; go_simp; exact hK
        refine anyS_quiet (a2 := ?a3) 3 rfl rfl rfl (by kernel_rfl) (by kernel_rfl) (by kernel_rfl) (by kernel_rfl) (by kernel_rfl) (by kernel_rfl) (fun _ _ _ _ h => h) HS.out ?h3 ?k3
        case h3 => intro W hW K hK; obtain ⟨c0, e1⟩ := hW; go_simp; exact hK
        refine anyS_quiet (a2 := ?a4) 4 rfl rfl rfl (by kernel_rfl) (by kernel_rfl) (by kernel_rfl) (by kernel_rfl) (by kernel_rfl) (by kernel_rfl) (fun _ _ _ _ h => h) HS.out ?h4 ?k4
        case h4 => intro W hW K hK; obtain ⟨c0, e1⟩ := hW; go_simp; exact hK
        refine anyS_quiet (a2 := ?a5) 5 rfl rfl rfl (by kernel_rfl) (by kernel_rfl) (by kernel_rfl) (by kernel_rfl) (by kernel_rfl) (by kernel_rfl) (fun _ _ _ _ h => h) HS.out ?h5 ?k5
        case h5 => intro W hW K hK; obtain ⟨c0, e1⟩ := hW; go_simp; exact hK
        refine anyS_quiet (a2 := ?a6) 6 rfl rfl rfl (by kernel_rfl) (by kernel_rfl) (by kernel_rfl) (by kernel_rfl) (by kernel_rfl) (by kernel_rfl) (fun _ _ _ _ h => h) HS.out ?h6 ?k6
        case h6 => intro W hW K hK; obtain ⟨c0, e1⟩ := hW; go_simp; exact hK
        refine anyS_only 7 rfl (by kernel_rfl) ?_
        gi_wp2
        refine And.intro (.inr ⟨cell_allocO HS.out.1 _, cell_allocO HS.out.2 _⟩) ?_
        refine anyS_only 8 rfl (by kernel_rfl) ?_
        have HO := Lib.hid (HP2.out.ext ((Ext.refl w0).alloc (.cells #[.int .i64 a] 3)))
        have hb0 := Nat.le_trans HB.out HX2.out.size
        refine wpListIn_append_fresh rfl _ _ 52 rfl base 3 i0 _ 1 8 Try.underlying52 hi hz0 hz1 hz2 rfl (by decide) _ _ _ rfl HO.out.ra ⟨w0.heap.size, 0, none⟩ 1 1 [.int .i64 a] rfl rfl ?c1 ?c2 ?c3 ?c4 ?c5 ?_
        case c1 => exact cells_new w0 [.int .i64 a] 3
        case c2 => simp [Value.oneCell']
        case c3 => unfold maxLen; omega
        case c4 => omega
        case c5 => simp; omega
        intro va2 w1 hown hgrow hnil hfresh
        have hfr : ∀ k, va2.ownBlock = some k → (Value.slice aa A.length ac).ownBlock = some k ∨ w0.heap.size ≤ k := fun k hk => (hfresh k hk).imp id fun h => by simp at h; omega
        have hbk : ∀ b c' t, Blk w0 b c' t → t ≠ 3 → Blk w1 b c' t := fun b c' t hb' ht => by
          refine (hgrow.block b (by have := hb'.lt; simp; omega) ?_).trans (hb'.alloc _)
          intro e
          obtain ⟨cur, hc⟩ := ownsRow_type HP2.out.ra e.symm
          exact hc.ne hb' (fun e => ht e.symm) rfl
        have hrb1 : w1.ownsRow base 3 1 (.slice ba B.length bc) B.length (B.map (Value.int .i64)) := ownsRow_keeps HO.out.rb fun k hk => hgrow.block k (HO.out.rb.lt k hk).2 fun e => HO.out.dis k e.symm hk
        have hbl1 : Below base w w1 := ((Keeps.below HX2.out HB.out fun _ h => h.elim).alloc hb0 _).grown hgrow (by simp; omega) fun k e => (HO.out.ra.lt k e).1
        have HU1 := Lib.hid (hbk _ _ _ HU2.out (by decide))
        have HV1 := Lib.hid (hbk _ _ _ HV2.out (by decide))
        have HB1 := Lib.hid (hbk _ _ _ HP2.out.blk (by decide))
        have HL1 := Lib.hid hbl1
        have HR1 := Lib.hid hrb1
        have HF := Lib.hid hfr
        have HD := Lib.hid HP2.out.dis
        have HLT := Lib.hid fun k hk => HP2.out.rb.lt k hk
        have Hbp := Lib.hid HP2.out.hb
        obtain ⟨g', cap', rfl⟩ := ownsRow_succ hown
        have Hown := Lib.hid hown
        have HS1 : Hid (w1.cell? ⟨bp, 0, none⟩ = some (.slice aa A.length ac) ∧ w1.cell? ⟨sz, 1, none⟩ = some (.int .i64 a)) := Lib.hid ⟨(HB1.out.cell 0).trans rfl, (HU1.out.cell 1).trans rfl⟩
        clear hown hgrow hnil hfresh hfr hbk hrb1 hbl1 HO HP2 HX2 HV2 HU2
        gi_wp2
        refine And.intro (.inr HS1.out) ?_
        refine anyS_only 9 rfl (by kernel_rfl) ?_
        gi_wp2
        refine And.intro (.inr HS1.out) ?_
        refine anyS_only 10 rfl (by kernel_rfl) ?_
        gi_wp2
        refine And.intro (.inr HS1.out) ?_
        refine anyS_only 11 rfl (by kernel_rfl) ?_
        have fb := HB1.out.frozen 0
        have cb := HS1.out.1
        gi_wp2
        refine anyS_done (by kernel_rfl) ?_ _
        have HP3 : Hid (PRep (w1.setCell ⟨bp, 0, none⟩ (.slice (some ⟨g', 0, none⟩) (A.length + 1) cap')) base bp (.slice (some ⟨g', 0, none⟩) (A.length + 1) cap') (.slice ba B.length bc) (A ++ [a]) B) := Lib.hid
          ⟨HB1.out.set 0 _, by simpa using ownsRow_set Hown.out (a := ⟨bp, 0, none⟩) HB1.out (by decide) (.slice (some ⟨g', 0, none⟩) (A.length + 1) cap'), ownsRow_set HR1.out (a := ⟨bp, 0, none⟩) HB1.out (by decide) _, fun k h1 h2 => by
            rcases HF.out k h1 with h | h
            · exact HD.out k h h2
            · have := (HLT.out k h2).2; omega, Hbp.out⟩
        have HV3 := Lib.hid (HV1.out.far (a := ⟨bp, 0, none⟩) (HV1.out.ne HB1.out (by decide)) (.slice (some ⟨g', 0, none⟩) (A.length + 1) cap'))
        have HL3 := Lib.hid (HL1.out.setCell (p := ⟨bp, 0, none⟩) Hbp.out (.slice (some ⟨g', 0, none⟩) (A.length + 1) cap'))
        clear fb cb HS1 HS HU1 HV1 HB1 HL1 HR1 HF HD HLT Hown
        generalize w1.setCell ⟨bp, 0, none⟩ (.slice (some ⟨g', 0, none⟩) (A.length + 1) cap') = w3 at HP3 HV3 HL3 ⊢
        have c1 : w3.drew.cell? ⟨bp, 1, none⟩ = some (.slice ba B.length bc) := (HP3.out.blk.cell 1).trans rfl
        have e2 : w3.drew.cell? ⟨sz + 1, 1, none⟩ = some (.int .i64 c) := (HV3.out.cell 1).trans rfl
        go_wp2_with fail
        have HS : Hid (w3.drew.cell? ⟨bp, 1, none⟩ = some (.slice ba B.length bc) ∧ w3.drew.cell? ⟨sz + 1, 1, none⟩ = some (.int .i64 c)) := Lib.hid ⟨c1, e2⟩
        have HP2 := Lib.hid (HP3.out.ext (Ext.refl _).drew)
        have HX2 := Lib.hid HL3.out.drew
        have hBlen : B.length ≤ 1000000 := by rw [← HL.out]; exact hn
        have HV4 := Lib.hid HV3.out.drew
        clear c1 e2 HP3 HV3 HL3
        refine region_S_plain (n := 3) (fun V => V.cell? ⟨bp, 1, none⟩ = some (.slice ba B.length bc) ∧ V.cell? ⟨sz + 1, 1, none⟩ = some (.int .i64 c)) 11 (by kernel_rfl) ?_
        generalize w3.drew = w4 at HS HP2 HX2 HV4 ⊢
        refine anyS_quiet (a2 := ?ab_0) 0 rfl rfl rfl (by kernel_rfl) (by kernel_rfl) (by kernel_rfl) (by kernel_rfl) (by kernel_rfl) (by kernel_rfl) (fun _ _ _ _ h => h) HS.out ?hb_0 ?kb_0
        case hb_0 => intro W hW K hK; obtain ⟨c0, e1⟩ := hW; go_simp; exact hK
        refine anyS_quiet (a2 := ?ab_1) 1 rfl rfl rfl (by kernel_rfl) (by kernel_rfl) (by kernel_rfl) (by kernel_rfl) (by kernel_rfl) (by kernel_rfl) (fun _ _ _ _ h => h) HS.out ?hb_1 ?kb_1
        case hb_1 => intro W hW K hK; obtain ⟨c0, e1⟩ := hW; go_simp; exact hK
        refine anyS_quiet (a2 := ?ab_2) 2 rfl rfl rfl (by kernel_rfl) (by kernel_rfl) (by kernel_rfl) (by kernel_rfl) (by kernel_rfl) (by kernel_rfl) (fun _ _ _ _ h => h) HS.out ?hb_2 ?kb_2
        case hb_2 => intro W hW K hK; obtain ⟨c0, e1⟩ := hW; go_simp; exact hK
        refine anyS_quiet (a2 := ?ab_3) 3 rfl rfl rfl (by kernel_rfl) (by kernel_rfl) (by kernel_rfl) (by kernel_rfl) (by kernel_rfl) (by kernel_rfl) (fun _ _ _ _ h => h) HS.out ?hb_3 ?kb_3
        case hb_3 => intro W hW K hK; obtain ⟨c0, e1⟩ := hW; go_simp; exact hK
        refine anyS_quiet (a2 := ?ab_4) 4 rfl rfl rfl (by kernel_rfl) (by kernel_rfl) (by kernel_rfl) (by kernel_rfl) (by kernel_rfl) (by kernel_rfl) (fun _ _ _ _ h => h) HS.out ?hb_4 ?kb_4
        case hb_4 => intro W hW K hK; obtain ⟨c0, e1⟩ := hW; go_simp; exact hK
        refine anyS_quiet (a2 := ?ab_5) 5 rfl rfl rfl (by kernel_rfl) (by kernel_rfl) (by kernel_rfl) (by kernel_rfl) (by kernel_rfl) (by kernel_rfl) (fun _ _ _ _ h => h) HS.out ?hb_5 ?kb_5
        case hb_5 => intro W hW K hK; obtain ⟨c0, e1⟩ := hW; go_simp; exact hK
        refine anyS_quiet (a2 := ?ab_6) 6 rfl rfl rfl (by kernel_rfl) (by kernel_rfl) (by kernel_rfl) (by kernel_rfl) (by kernel_rfl) (by kernel_rfl) (fun _ _ _ _ h => h) HS.out ?hb_6 ?kb_6
        case hb_6 => intro W hW K hK; obtain ⟨c0, e1⟩ := hW; go_simp; exact hK
        refine anyS_only 7 rfl (by kernel_rfl) ?_
        gi_wp2
        refine And.intro (.inr ⟨cell_allocO HS.out.1 _, cell_allocO HS.out.2 _⟩) ?_
        refine anyS_only 8 rfl (by kernel_rfl) ?_
        have HO := Lib.hid (HP2.out.ext ((Ext.refl w4).alloc (.cells #[.int .i64 c] 3)))
        have hb4 := Nat.le_trans HB.out HX2.out.size
        refine wpListIn_append_fresh rfl _ _ 52 rfl base 3 i0 _ 1 8 Try.underlying52 hi hz0 hz1 hz2 rfl (by decide) _ _ _ rfl HO.out.rb ⟨w4.heap.size, 0, none⟩ 1 1 [.int .i64 c] rfl rfl ?d1 ?d2 ?d3 ?d4 ?d5 ?_
        case d1 => exact cells_new w4 [.int .i64 c] 3
        case d2 => simp [Value.oneCell']
        case d3 => unfold maxLen; omega
        case d4 => omega
        case d5 => simp; omega
        intro vb2 w5 hown hgrow hnil hfresh
        have hfr : ∀ k, vb2.ownBlock = some k → (Value.slice ba B.length bc).ownBlock = some k ∨ w4.heap.size ≤ k := fun k hk => (hfresh k hk).imp id fun h => by simp at h; omega
        have hbk : ∀ b c' t, Blk w4 b c' t → t ≠ 3 → Blk w5 b c' t := fun b c' t hb' ht => by
          refine (hgrow.block b (by have := hb'.lt; simp; omega) ?_).trans (hb'.alloc _)
          intro e
          obtain ⟨cur, hc⟩ := ownsRow_type HP2.out.rb e.symm
          exact hc.ne hb' (fun e => ht e.symm) rfl
        have hra1 : w5.ownsRow base 3 1 (.slice (some ⟨g', 0, none⟩) (A.length + 1) cap') (A ++ [a]).length ((A ++ [a]).map (Value.int .i64)) := ownsRow_keeps HO.out.ra fun k hk => hgrow.block k (HO.out.ra.lt k hk).2 fun e => HO.out.dis k hk e.symm
        have hbl1 : Below base w w5 := (HX2.out.alloc hb4 _).grown hgrow (by simp; omega) fun k e => (HO.out.rb.lt k e).1
        have HB1 := Lib.hid (hbk _ _ _ HP2.out.blk (by decide))
        have HL1 := Lib.hid hbl1
        have HR1 := Lib.hid hra1
        have HF := Lib.hid hfr
        have HD := Lib.hid HP2.out.dis
        have HLT := Lib.hid fun k hk => HP2.out.ra.lt k hk
        obtain ⟨g2, cap2, rfl⟩ := ownsRow_succ hown
        have Hown := Lib.hid hown
        have HV5 : Hid (w5.cell? ⟨sz + 1, 1, none⟩ = some (.int .i64 c)) := Lib.hid (((hbk _ _ _ HV4.out (by decide)).cell 1).trans rfl)
        have HS1 : Hid (w5.cell? ⟨bp, 1, none⟩ = some (.slice ba B.length bc) ∧ w5.cell? ⟨sz + 1, 1, none⟩ = some (.int .i64 c)) := Lib.hid ⟨(HB1.out.cell 1).trans rfl, HV5.out⟩
        clear hown hgrow hnil hfresh hfr hbk hra1 hbl1 HO HP2 HX2
        gi_wp2
        refine And.intro (.inr HS1.out) ?_
        refine anyS_only 9 rfl (by kernel_rfl) ?_
        gi_wp2
        refine And.intro (.inr HS1.out) ?_
        refine anyS_only 10 rfl (by kernel_rfl) ?_
        gi_wp2
        refine And.intro (.inr HS1.out) ?_
        refine anyS_only 11 rfl (by kernel_rfl) ?_
        have fb := HB1.out.frozen 1
        have cb := HS1.out.1
        gi_wp2
        refine anyS_done (by kernel_rfl) ?_ _
        have HP3 : Hid (PRep (w5.setCell ⟨bp, 1, none⟩ (.slice (some ⟨g2, 0, none⟩) (B.length + 1) cap2)) base bp (.slice (some ⟨g', 0, none⟩) (A.length + 1) cap') (.slice (some ⟨g2, 0, none⟩) (B.length + 1) cap2) (A ++ [a]) (B ++ [c])) := Lib.hid
          ⟨HB1.out.set 1 _, ownsRow_set HR1.out (a := ⟨bp, 1, none⟩) HB1.out (by decide) _, by simpa using ownsRow_set Hown.out (a := ⟨bp, 1, none⟩) HB1.out (by decide) (.slice (some ⟨g2, 0, none⟩) (B.length + 1) cap2), fun k h1 h2 => by
            rcases HF.out k h2 with h | h
            · exact HD.out k h1 h
            · have := (HLT.out k h1).2; omega, Hbp.out⟩
        have HL3 := Lib.hid (HL1.out.setCell (p := ⟨bp, 1, none⟩) Hbp.out (.slice (some ⟨g2, 0, none⟩) (B.length + 1) cap2))
        clear fb cb HS1 HS HB1 HL1 HR1 HF HD HLT Hown HV5 HV4
        generalize w5.setCell ⟨bp, 1, none⟩ (.slice (some ⟨g2, 0, none⟩) (B.length + 1) cap2) = w6 at HP3 HL3 ⊢
        go_wp2
        rw [← HM.out]
        refine ⟨true, .slice (some ⟨g', 0, none⟩) (A.length + 1) cap', .slice (some ⟨g2, 0, none⟩) (B.length + 1) cap2, rfl, ?_, HL3.out⟩
        rw [HAA.out, HBB.out, if_neg HnA.out, if_neg HnA.out]
        exact HP3.out
end Go.Proofs.Ytikigppfnhilhaa
