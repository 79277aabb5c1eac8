/- reach of the reference: the walk. Reach of the reference. -/
import Derived.Test.YtikigppfnhilhaaGPD42
/- reach of the reference: the walk. -/
namespace Go.Proofs.Ytikigppfnhilhaa
open Go.RowKit Go.Instr
set_option linter.unusedVariables false
set_option linter.unusedSimpArgs false
attribute [local go_sem] Oper.semAt_some

theorem run_append_none {w : World} (base : Nat) (t ty e : TypeId) (i : TypeInfo) (size : Nat) (ht : (Try.prog).underlying t = some (.slice e)) (hi : (Try.prog).info? e = some i)
    (v : Value) (n : Nat) (xs : List Value) (hown : w.ownsRow base e size v n xs) (c : Nat) :
    (Builtin.append_ #[t, t] ty #[v, .slice none 0 c]).run Try.prog w = .ok v w := by
  rcases hown.2 with ⟨rfl, rfl⟩ | ⟨g, cap, cur, rfl, _, _, hnc, _⟩
  · simp [Builtin.append_, run_underlying ht, sizeOf, typeInfo, hi, Builtin.lenOf, Builtin.firstCells]
  · simp [Builtin.append_, run_underlying ht, sizeOf, typeInfo, hi, Builtin.lenOf, Builtin.firstCells, hnc, storeCells]
theorem wpList_append_W {w : World} {ops : Array Oper} {rest : List Oper} {o : Oper} {a : Act} {Q : Exit → Act → World → Prop} (hgd : o.guard = none) (s x : Operand)
    (ho : o.op = .call { callee := .builtin .append, args := #[s, x], argTypes := #[23, 23] })
    (base : Nat) (v : Value) (l1 : List Wd) (hs : a.eval s = v) (hown : w.ownsRow base 33 6 v l1.length (flatL l1)) (u : Value) (l2 : List Wd) (hx : a.eval x = u) (hrow : RdW w u l2)
    (hl : l1.length + l2.length ≤ 10000000) (hbase : base ≤ w.heap.size)
    (h : ∀ v' w', w'.ownsRow base 33 6 v' (l1 ++ l2).length (flatL (l1 ++ l2)) → w.grownBy w' v.ownBlock → wpList Try.prog ops Q rest (a.put o.dst v') w') : wpList Try.prog ops Q (o :: rest) a w := by
  obtain ⟨i0, hi, hz0, hz1, hz2⟩ := info_parts info_wordC
  obtain ⟨ad, c, rfl, h0, h1⟩ := hrow
  cases ad with
  | none =>
    have : l2 = [] := h0 rfl
    subst this
    refine wpList_plain hgd fun K hK => ?_
    have hrun := run_append_none (w := w) base 23 o.type 33 i0 6 Try.underlying23 hi v _ _ hown c
    have hx : a.eval x = .slice none 0 c := hx
    unfold Oper.wp
    simp [execOp, ho, resolve, invoke, builtin, hs, hx, hrun, Result.andThen]
    exact hK _ _ (h v w (by rw [List.append_nil]; exact hown) (grownBy_refl _ _))
  | some ad =>
    refine wpList_append_fresh hgd s x 23 ho base 33 i0 _ 6 56 Try.underlying23 hi hz0 hz1 hz2 rfl (by decide) v l1.length _ hs hown ad l2.length _ (flatL l2) hx (flatL_length l2) (fun j z hz => h1 _ rfl j z hz) (flatL_one l2) (by unfold maxLen; omega) (by omega) hbase ?_
    intro v' w' g1 g2 _ _
    refine h v' w' ?_ g2
    rw [flatL_append, List.length_append]; exact g1
def RreachR (w : World) (h : LH) (yo : Bool) (from_ : List Wd) (K0 : List Int) (e : Ending) (w' : World) : Prop :=
  ∃ v' K, e = .returned v' ∧ w'.ownsRow 0 3 1 v' K.length (K.map (Value.int .i64)) ∧ RGood h yo from_ K0 K ∧ Ext w w'
theorem RRep.alllen {w : World} {base : Nat} {r : RH} (h : RRep w base r) : r.log.all.length ≤ 2000 := by
  have h1 := h.ylen; have h2 := h.olen
  have : r.log.all.length = r.log.yb.length + r.log.ob.length := by unfold LH.all; rw [List.length_append]
  omega
set_option maxRecDepth 100000 in
set_option maxHeartbeats 8000000 in
theorem Rreach_any {w : World} {base : Nat} {r : RH} (h : RRep w base r) (hB : ∀ b ∈ r.log.all, ∀ u ∈ b.ws, r.log.bad u = false) {v0 v : Value} {K0 : List Int} {from_ : List Wd} {yo : Bool} (h0 : w.ownsRow 0 3 1 v0 K0.length (K0.map (Value.int .i64))) (q : RQ r.log yo from_ K0 K0 from_)
    (hr : RdW w v from_) (hl : from_.length ≤ 2000000) (hbf : ∀ u ∈ from_, r.log.bad u = false) :
    Calls Try.prog 96 #[.pointer (some ⟨r.rp, 0, none⟩), v0, v, .bool yo] w (RreachR w r.log yo from_ K0) := by
  generalize hM : RreachR w r.log yo from_ K0 = M
  have HM := Lib.hid hM
  have H := Lib.hid h; have HBd := Lib.hid hB; have H0 := Lib.hid h0; have HQ := Lib.hid q; have HR := Lib.hid hr; have HL := Lib.hid hl; have HF := Lib.hid hbf
  obtain ⟨ka, kc, rfl⟩ := own_slice h0
  clear hM h hB h0 q hr hl hbf
  go_enter Try.func96, Try.ntmps96
  go_wp2_with (at_builtin; refine (fun h => h trivial : (True → _) → _) ?_)
  intro _
  refine wpList_append_W rfl _ _ rfl w.heap.size (.slice none 0 0) [] rfl (World.ownsRow_nil _ _ _ _) _ from_ rfl HR.out (by have := HL.out; simp; omega) (Nat.le_refl _) ?_
  intro v1 w1 h1 hg1
  have HO : Hid (w1.ownsRow w.heap.size 33 6 v1 from_.length (flatL from_)) := Lib.hid (by simpa using h1)
  have HX : Hid (Ext w w1) := Lib.hid ((Ext.refl w).grown hg1 fun j e => by simp [Value.ownBlock] at e)
  clear h1 hg1
  go_wp2_with fail
  go_loopw [1, 9] (fun kv tv wr => ∃ K ws, Hid (wr.ownsRow 0 3 1 kv K.length (K.map (Value.int .i64))) ∧ Hid (wr.ownsRow w.heap.size 33 6 tv ws.length (flatL ws)) ∧ Hid (RQ r.log yo from_ K0 K ws) ∧ Hid (Ext w wr)) (fun kv tv wr => (3000 - slLen kv) * 2000 + slLen tv)
  case atStart => exact ⟨K0, from_, Lib.hid (own_ext H0.out HX.out), HO, HQ, HX⟩
  case round =>
  clear HO HX HQ H0
  obtain ⟨K, ws, HK, HT, HQ, HX⟩ := hrel
  obtain ⟨ka, kc, rfl⟩ := own_slice HK.out
  rcases List.eq_nil_or_concat ws with rfl | ⟨ws', u, hw⟩
  · obtain ⟨a0, c0, rfl⟩ := own_slice HT.out
    clear HT
    go_wp2_with fail
    rw [← HM.out]
    exact ⟨_, K, rfl, HK.out, HQ.out.done, HX.out⟩
  · rw [List.concat_eq_append] at hw; subst hw
    have hK : K.length ≤ 2000 := Nat.le_trans HQ.out.count H.out.alllen
    have hn : ws'.length ≤ 4002000 := by have := HQ.out.len; have := HL.out; simp at *; omega
    have Ho1 : wr.ownsRow w.heap.size 33 6 u9 (ws'.length + 1) (flatL ws' ++ u.cells) := by have := HT.out; rw [flatL_append] at this; simpa [flatL] using this
    obtain ⟨g, cp, rfl⟩ := ownsRow_succ Ho1
    have hc := Ho1.cells (g := g) rfl
    have Ho2 := Lib.hid (ownsRow_pop (by rw [flatL_length]) Ho1)
    have hcell : ∀ j, j < 6 → wr.cell? ⟨g, ws'.length * 6 + j, none⟩ = u.cells[j]? := fun j hj => by
      obtain ⟨z, hz⟩ : ∃ z, u.cells[j]? = some z := ⟨_, List.getElem?_eq_getElem (by simpa [Wd.cells] using hj)⟩
      rw [hz]
      have := hc (ws'.length * 6 + j) z (by rw [List.getElem?_append_right (by rw [flatL_length]; omega), flatL_length]; simpa using hz)
      rw [show (⟨g, 0, none⟩ : Addr).add (ws'.length * 6 + j) = ⟨g, ws'.length * 6 + j, none⟩ from by unfold Addr.add; split <;> simp_all] at this
      exact this
    have c0 : wr.cell? ⟨g, ws'.length * 6, none⟩ = some (.int .i64 u.tag) := (hcell 0 (by omega)).trans rfl
    have c1 : wr.cell? ⟨g, ws'.length * 6 + 1, none⟩ = some (.int .i64 u.a) := (hcell 1 (by omega)).trans rfl
    have c2 : wr.cell? ⟨g, ws'.length * 6 + 2, none⟩ = some (.int .i64 u.b) := (hcell 2 (by omega)).trans rfl
    have c3 : wr.cell? ⟨g, ws'.length * 6 + 3, none⟩ = some (.string u.text) := (hcell 3 (by omega)).trans rfl
    have c4 : wr.cell? ⟨g, ws'.length * 6 + 4, none⟩ = some (.int .i64 u.man) := (hcell 4 (by omega)).trans rfl
    have c5 : wr.cell? ⟨g, ws'.length * 6 + 5, none⟩ = some (.int .i64 u.exp) := (hcell 5 (by omega)).trans rfl
    have hcp : ws'.length + 1 ≤ cp := by
      rcases Ho1.2 with ⟨h0, _⟩ | ⟨g', cap', cur, hv, _, _, hn, hcap, _⟩
      · cases h0
      · cases hv; omega
    obtain ⟨bx, hbx⟩ : ∃ bx, wr.heap.size = bx := ⟨_, rfl⟩
    clear hcell hc Ho1 HT
    go_upto_region 6 with fail
    obtain ⟨W4, hW4⟩ : ∃ W4, wr.alloc (.cells #[.int .i64 u.tag, .int .i64 u.a, .int .i64 u.b, .string u.text, .int .i64 u.man, .int .i64 u.exp] 33) = W4 := ⟨_, rfl⟩
    have hx4 : Ext wr W4 := by rw [← hW4]; exact (Ext.refl wr).alloc _
    have HX4 : Hid (Ext w W4) := Lib.hid (HX.out.trans hx4)
    have HB4 : Hid (Blk W4 bx #[.int .i64 u.tag, .int .i64 u.a, .int .i64 u.b, .string u.text, .int .i64 u.man, .int .i64 u.exp] 33) := Lib.hid (by rw [← hW4, ← hbx]; exact Blk.new wr _ _)
    have HK4 := Lib.hid (own_ext HK.out hx4)
    have HO4 := Lib.hid (own_ext Ho2.out hx4)
    have HQu := HQ
    rw [hW4]
    clear hx4 hW4 c0 c1 c2 c3 c4 c5 HX HK Ho2 hbx HQ
    have b0 : W4.cell? ⟨bx, 0, none⟩ = some (.int .i64 u.tag) := (HB4.out.cell 0).trans rfl
    have b1 : W4.cell? ⟨bx, 0 + 1, none⟩ = some (.int .i64 u.a) := (HB4.out.cell 1).trans rfl
    have b2 : W4.cell? ⟨bx, 0 + 2, none⟩ = some (.int .i64 u.b) := (HB4.out.cell 2).trans rfl
    have b3 : W4.cell? ⟨bx, 0 + 3, none⟩ = some (.string u.text) := (HB4.out.cell 3).trans rfl
    have b4 : W4.cell? ⟨bx, 0 + 4, none⟩ = some (.int .i64 u.man) := (HB4.out.cell 4).trans rfl
    have b5 : W4.cell? ⟨bx, 0 + 5, none⟩ = some (.int .i64 u.exp) := (HB4.out.cell 5).trans rfl
    by_cases htag : u.tag = 1
    · have ht' : (u.tag != 1) = false := by simpa using htag
      have Htag := Lib.hid htag
      clear htag
      by_cases hz : u.a = 0
      · have hz' : (u.a == 0) = true := by simpa using hz
        have Hskip : Hid (r.log.want yo u = true → refW u ∈ K) := Lib.hid (by intro hw; simp [LH.want, refW, hz] at hw)
        clear hz
        go_wp2_with fail
        exact ⟨⟨K, ws', HK4, HO4, Lib.hid (HQu.out.skip Hskip.out), HX4⟩, by simp [slLen]⟩
      · have hz' : (u.a == 0) = false := by simpa using hz
        have Hz := Lib.hid hz
        clear hz
        cases yo with
        | false =>
          have Hw : Hid (r.log.want false u = true) := Lib.hid (by simp [LH.want, refW, Htag.out, Hz.out])
          go_upto_region 7 with fail
          have hra : refW u = u.a := by unfold refW; rw [if_pos Htag.out]
          obtain ⟨b, hf⟩ := HQu.out.found HF.out HBd.out Hw.out
          obtain ⟨y, hy, hyb⟩ : ∃ y, r.find u.a = some y ∧ y.b = b := by
            have h1 := hf; rw [hra, RH.find_log] at h1; exact Option.map_eq_some_iff.1 h1
          subst hyb
          have HFd := Lib.hid hf
          have Hra := Lib.hid hra
          have Hy := Lib.hid hy
          have HC := Lib.hid (Rinto_any HK4.out HQu.out.sorted (Nat.le_trans hK (by omega)) u.a)
          have b1 : W4.cell? ⟨bx, 0 + 1, none⟩ = some (.int .i64 u.a) := (HB4.out.cell 1).trans rfl
          clear hf hra hy
          go_wp2_with fail
          refine HC.out.mono ?_
          rintro e W6 ⟨v', K', rfl, hok, hrow, hx6⟩
          have hrow2 : W6.ownsRow 0 3 1 v' K'.length (K'.map (Value.int .i64)) := by
            rcases hrow with ⟨rfl, rfl⟩ | h
            · exact own_ext HK4.out hx6
            · exact ownsRow_base h (Nat.zero_le _)
          have HN6 := Lib.hid hrow2
          have HK6 := Lib.hid (own_ext HK4.out hx6)
          have HO6 := Lib.hid (own_ext HO4.out hx6)
          have HB6 := Lib.hid (hx6.blk HB4.out id)
          have HX6 : Hid (Ext w W6) := Lib.hid (HX4.out.trans hx6)
          have HOk := Lib.hid hok
          clear hok hrow hx6 HC HX4 HB4 HK4 HO4 b1
          obtain ⟨na, nc, rfl⟩ := own_slice hrow2
          clear hrow2
          by_cases hin : u.a ∈ K
          · have hlen : K'.length = K.length := by rw [HOk.out.len, if_pos hin]
            have Hin := Lib.hid hin
            rw [hlen]
            clear hlen hin
            go_wp2_with fail
            exact ⟨⟨K, ws', HK6, HO6, Lib.hid (HQu.out.skip fun _ => by rw [Hra.out]; exact Hin.out), HX6⟩, by simp [slLen]⟩
          · have hlen : K'.length = K.length + 1 := by rw [HOk.out.len, if_neg hin]
            have Hlen := Lib.hid hlen
            have Hin := Lib.hid hin
            have he : ((K'.length : Int) == (K.length : Int)) = false := by rw [hlen]; simp; omega
            have b1 : W6.cell? ⟨bx, 0 + 1, none⟩ = some (.int .i64 u.a) := (HB6.out.cell 1).trans rfl
            have HBl := Lib.hid (RBlock_any (H.out.ext HX6.out) u.a)
            clear hlen hin
            go_upto_region 10 with fail
            go_wp2_with fail
            refine HBl.out.mono ?_
            rintro e W7 ⟨rfl, hx7⟩
            rw [Hy.out]
            simp only [blkV, blkE, RB.sl]
            have HX7 : Hid (Ext w W7) := Lib.hid (HX6.out.trans hx7)
            have HN7 := Lib.hid (own_ext HN6.out hx7)
            have HO7 := Lib.hid (own_ext HO6.out hx7)
            obtain ⟨bt, hbt⟩ : ∃ bt, W7.heap.size = bt := ⟨_, rfl⟩
            clear hx7 HBl HX6 HN6 HO6 HB6 b1 HK6
            go_upto_region 11 with fail
            obtain ⟨W8, hW8⟩ : ∃ W8, W7.alloc (.cells #[.int .i64 y.b.at_, .int .i64 y.b.kind, .slice (some ⟨y.arr, 0, none⟩) y.b.ws.length y.b.ws.length] 49) = W8 := ⟨_, rfl⟩
            have hx8 : Ext W7 W8 := by rw [← hW8]; exact (Ext.refl W7).alloc _
            have HX8 : Hid (Ext w W8) := Lib.hid (HX7.out.trans hx8)
            have hb8 : Blk W8 bt #[.int .i64 y.b.at_, .int .i64 y.b.kind, .slice (some ⟨y.arr, 0, none⟩) y.b.ws.length y.b.ws.length] 49 := by rw [← hW8, ← hbt]; exact Blk.new W7 _ _
            have t2 : W8.cell? ⟨bt, 0 + 2, none⟩ = some (.slice (some ⟨y.arr, 0, none⟩) y.b.ws.length y.b.ws.length) := (hb8.cell 2).trans rfl
            have HN8 := Lib.hid (own_ext HN7.out hx8)
            have HO8 := Lib.hid (own_ext HO7.out hx8)
            have Hym : Hid (y ∈ r.all) := Lib.hid (RH.find_mem Hy.out).1
            have Hyl : Hid (y.b.ws.length ≤ 1000) := Lib.hid (H.out.len (by rw [RH.log_all]; exact List.mem_map_of_mem Hym.out))
            rw [hW8]
            clear hx8 hW8 hb8 HX7 HN7 HO7 hbt
            go_wp2_with (at_builtin; refine (fun h => h trivial : (True → _) → _) ?_)
            intro _
            refine wpList_append_W rfl _ _ rfl w.heap.size _ ws' rfl HO8.out _ y.b.ws rfl (rdW_of_blk ((H.out.ext HX8.out).wo y Hym.out) _) (by have := Hyl.out; omega) HX8.out.size ?_
            intro v9 w9 h9 hg9
            have HX9 : Hid (Ext w w9) := Lib.hid (HX8.out.grown hg9 fun j e => .inr (HO8.out.lt j e).1)
            have HO9 := Lib.hid h9
            have HN9 : Hid (w9.ownsRow 0 3 1 (.slice na K'.length nc) K'.length (K'.map (Value.int .i64))) := Lib.hid (ownsRow_keeps HN8.out fun j hj => hg9.block j (HN8.out.lt j hj).2 (fun e => by
              obtain ⟨c1, h1⟩ := ownsRow_type HN8.out hj
              obtain ⟨c2, h2⟩ := ownsRow_type HO8.out e.symm
              exact h1.ne h2 (by decide) rfl))
            obtain ⟨wa, wc, rfl⟩ := own_slice h9
            rw [List.length_append] at HO9
            try rw [List.length_append]
            clear h9 hg9 t2
            go_wp2_with fail
            refine ⟨⟨K', ws' ++ y.b.ws, HN9, Lib.hid (by have := HO9.out; simpa only [List.length_append] using this), Lib.hid (HQu.out.add Hw.out HFd.out (by rw [Hra.out]; exact Hin.out) (by rw [Hra.out]; exact HOk.out) Hyl.out), HX9⟩, ?_⟩
            have h1 := Hlen.out; have h2 := Hyl.out
            simp only [slLen, List.length_append]; omega
        | true =>
          have HY := Lib.hid (Ryoung_any (H.out.ext HX4.out) u)
          unfold Wd.val Wd.cells at HY
          go_wp2_with fail
          refine HY.out.mono ?_
          rintro e W5 ⟨rfl, hx5⟩
          have HX5 : Hid (Ext w W5) := Lib.hid (HX4.out.trans hx5)
          have HB5 := Lib.hid (hx5.blk HB4.out id)
          have HK5 := Lib.hid (own_ext HK4.out hx5)
          have HO5 := Lib.hid (own_ext HO4.out hx5)
          clear hx5 HY HX4 HB4 HK4 HO4 b0 b1 b2 b3 b4 b5
          by_cases hyg : r.log.yg u = true
          · have Hw : Hid (r.log.want true u = true) := Lib.hid (by simp [LH.want, refW, Htag.out, Hz.out, hyg])
            rw [hyg]
            clear hyg
            have HX4 := HX5; have HB4 := HB5; have HK4 := HK5; have HO4 := HO5
            clear HX5 HB5 HK5 HO5
            generalize W5 = W4 at HX4 HB4 HK4 HO4 ⊢
            go_upto_region 7 with fail
            have hra : refW u = u.a := by unfold refW; rw [if_pos Htag.out]
            obtain ⟨b, hf⟩ := HQu.out.found HF.out HBd.out Hw.out
            obtain ⟨y, hy, hyb⟩ : ∃ y, r.find u.a = some y ∧ y.b = b := by
              have h1 := hf; rw [hra, RH.find_log] at h1; exact Option.map_eq_some_iff.1 h1
            subst hyb
            have HFd := Lib.hid hf
            have Hra := Lib.hid hra
            have Hy := Lib.hid hy
            have HC := Lib.hid (Rinto_any HK4.out HQu.out.sorted (Nat.le_trans hK (by omega)) u.a)
            have b1 : W4.cell? ⟨bx, 0 + 1, none⟩ = some (.int .i64 u.a) := (HB4.out.cell 1).trans rfl
            clear hf hra hy
            go_wp2_with fail
            refine HC.out.mono ?_
            rintro e W6 ⟨v', K', rfl, hok, hrow, hx6⟩
            have hrow2 : W6.ownsRow 0 3 1 v' K'.length (K'.map (Value.int .i64)) := by
              rcases hrow with ⟨rfl, rfl⟩ | h
              · exact own_ext HK4.out hx6
              · exact ownsRow_base h (Nat.zero_le _)
            have HN6 := Lib.hid hrow2
            have HK6 := Lib.hid (own_ext HK4.out hx6)
            have HO6 := Lib.hid (own_ext HO4.out hx6)
            have HB6 := Lib.hid (hx6.blk HB4.out id)
            have HX6 : Hid (Ext w W6) := Lib.hid (HX4.out.trans hx6)
            have HOk := Lib.hid hok
            clear hok hrow hx6 HC HX4 HB4 HK4 HO4 b1
            obtain ⟨na, nc, rfl⟩ := own_slice hrow2
            clear hrow2
            by_cases hin : u.a ∈ K
            · have hlen : K'.length = K.length := by rw [HOk.out.len, if_pos hin]
              have Hin := Lib.hid hin
              rw [hlen]
              clear hlen hin
              go_wp2_with fail
              exact ⟨⟨K, ws', HK6, HO6, Lib.hid (HQu.out.skip fun _ => by rw [Hra.out]; exact Hin.out), HX6⟩, by simp [slLen]⟩
            · have hlen : K'.length = K.length + 1 := by rw [HOk.out.len, if_neg hin]
              have Hlen := Lib.hid hlen
              have Hin := Lib.hid hin
              have he : ((K'.length : Int) == (K.length : Int)) = false := by rw [hlen]; simp; omega
              have b1 : W6.cell? ⟨bx, 0 + 1, none⟩ = some (.int .i64 u.a) := (HB6.out.cell 1).trans rfl
              have HBl := Lib.hid (RBlock_any (H.out.ext HX6.out) u.a)
              clear hlen hin
              go_upto_region 10 with fail
              go_wp2_with fail
              refine HBl.out.mono ?_
              rintro e W7 ⟨rfl, hx7⟩
              rw [Hy.out]
              simp only [blkV, blkE, RB.sl]
              have HX7 : Hid (Ext w W7) := Lib.hid (HX6.out.trans hx7)
              have HN7 := Lib.hid (own_ext HN6.out hx7)
              have HO7 := Lib.hid (own_ext HO6.out hx7)
              obtain ⟨bt, hbt⟩ : ∃ bt, W7.heap.size = bt := ⟨_, rfl⟩
              clear hx7 HBl HX6 HN6 HO6 HB6 b1 HK6
              go_upto_region 11 with fail
              obtain ⟨W8, hW8⟩ : ∃ W8, W7.alloc (.cells #[.int .i64 y.b.at_, .int .i64 y.b.kind, .slice (some ⟨y.arr, 0, none⟩) y.b.ws.length y.b.ws.length] 49) = W8 := ⟨_, rfl⟩
              have hx8 : Ext W7 W8 := by rw [← hW8]; exact (Ext.refl W7).alloc _
              have HX8 : Hid (Ext w W8) := Lib.hid (HX7.out.trans hx8)
              have hb8 : Blk W8 bt #[.int .i64 y.b.at_, .int .i64 y.b.kind, .slice (some ⟨y.arr, 0, none⟩) y.b.ws.length y.b.ws.length] 49 := by rw [← hW8, ← hbt]; exact Blk.new W7 _ _
              have t2 : W8.cell? ⟨bt, 0 + 2, none⟩ = some (.slice (some ⟨y.arr, 0, none⟩) y.b.ws.length y.b.ws.length) := (hb8.cell 2).trans rfl
              have HN8 := Lib.hid (own_ext HN7.out hx8)
              have HO8 := Lib.hid (own_ext HO7.out hx8)
              have Hym : Hid (y ∈ r.all) := Lib.hid (RH.find_mem Hy.out).1
              have Hyl : Hid (y.b.ws.length ≤ 1000) := Lib.hid (H.out.len (by rw [RH.log_all]; exact List.mem_map_of_mem Hym.out))
              rw [hW8]
              clear hx8 hW8 hb8 HX7 HN7 HO7 hbt
              go_wp2_with (at_builtin; refine (fun h => h trivial : (True → _) → _) ?_)
              intro _
              refine wpList_append_W rfl _ _ rfl w.heap.size _ ws' rfl HO8.out _ y.b.ws rfl (rdW_of_blk ((H.out.ext HX8.out).wo y Hym.out) _) (by have := Hyl.out; omega) HX8.out.size ?_
              intro v9 w9 h9 hg9
              have HX9 : Hid (Ext w w9) := Lib.hid (HX8.out.grown hg9 fun j e => .inr (HO8.out.lt j e).1)
              have HO9 := Lib.hid h9
              have HN9 : Hid (w9.ownsRow 0 3 1 (.slice na K'.length nc) K'.length (K'.map (Value.int .i64))) := Lib.hid (ownsRow_keeps HN8.out fun j hj => hg9.block j (HN8.out.lt j hj).2 (fun e => by
                obtain ⟨c1, h1⟩ := ownsRow_type HN8.out hj
                obtain ⟨c2, h2⟩ := ownsRow_type HO8.out e.symm
                exact h1.ne h2 (by decide) rfl))
              obtain ⟨wa, wc, rfl⟩ := own_slice h9
              rw [List.length_append] at HO9
              try rw [List.length_append]
              clear h9 hg9 t2
              go_wp2_with fail
              refine ⟨⟨K', ws' ++ y.b.ws, HN9, Lib.hid (by have := HO9.out; simpa only [List.length_append] using this), Lib.hid (HQu.out.add Hw.out HFd.out (by rw [Hra.out]; exact Hin.out) (by rw [Hra.out]; exact HOk.out) Hyl.out), HX9⟩, ?_⟩
              have h1 := Hlen.out; have h2 := Hyl.out
              simp only [slLen, List.length_append]; omega
          · have hyg : r.log.yg u = false := by simpa using hyg
            have Hskip : Hid (r.log.want true u = true → refW u ∈ K) := Lib.hid (by intro hw; simp [LH.want, hyg] at hw)
            rw [hyg]
            clear hyg
            go_wp2_with fail
            exact ⟨⟨K, ws', HK5, HO5, Lib.hid (HQu.out.skip Hskip.out), HX5⟩, by simp [slLen]⟩
    · have ht' : (u.tag != 1) = true := by simpa using htag
      have Hskip : Hid (r.log.want yo u = true → refW u ∈ K) := Lib.hid (by intro hw; simp [LH.want, refW, htag] at hw)
      clear htag
      go_wp2_with fail
      exact ⟨⟨K, ws', HK4, HO4, Lib.hid (HQu.out.skip Hskip.out), HX4⟩, by simp [slLen]⟩
end Go.Proofs.Ytikigppfnhilhaa
/- Reach of the reference. -/
namespace Go.Proofs.Ytikigppfnhilhaa
open Go.RowKit Go.Instr
set_option linter.unusedVariables false
set_option linter.unusedSimpArgs false
attribute [local go_sem] Oper.semAt_some

theorem LOk.all_lt {h : LH} (k : LOk h) : (h.all.map Bk.at_).Pairwise (· < ·) := by
  unfold LH.all
  rw [List.map_append, List.pairwise_append]
  refine ⟨dense_lt k.dy, dense_lt k.do_, fun a ha b hb => ?_⟩
  obtain ⟨c, hc, rfl⟩ := List.mem_map.1 ha
  obtain ⟨d, hd, rfl⟩ := List.mem_map.1 hb
  have h1 := Dense.mem k.dy hc; have h2 := Dense.mem k.do_ hd
  have h3 := k.uy
  have h4 : c.ws.length ≥ 0 := Nat.zero_le _
  have : (c.at_ : Int) + c.ws.length + 1 ≤ 1 + bused h.yb := h1.2
  have : h.Y + 1 ≤ d.at_ := h2.1
  omega
theorem sorted_ext {a b : List Int} (ha : a.Pairwise (· < ·)) (hb : b.Pairwise (· < ·)) (h : ∀ k, k ∈ a ↔ k ∈ b) : a = b := by
  have hp : a.Perm b := (List.perm_ext_iff_of_nodup (ha.imp fun h => by omega) (hb.imp fun h => by omega)).2 h
  exact hp.eq_of_pairwise (fun x y _ _ h1 h2 => by omega) ha hb
theorem RGood.reach {h : LH} (k : LOk h) {roots : List Wd} {K : List Int} (p : RGood h false roots [] K) : K = h.reach roots := by
  refine sorted_ext p.sorted (List.Pairwise.sublist (List.Sublist.map Bk.at_ List.filter_sublist) k.all_lt) fun a => ?_
  unfold LH.reach
  rw [List.mem_map]
  constructor
  · intro ha
    obtain ⟨b, hb⟩ := p.sub a ha
    obtain ⟨hm, he⟩ := LH.find_mem hb
    refine ⟨b, List.mem_filter.2 ⟨hm, LH.keep_iff.2 ?_⟩, he⟩
    exact (p.iff k hm).1 (by rw [he]; exact ha)
  · rintro ⟨b, hb, rfl⟩
    obtain ⟨hm, hk⟩ := List.mem_filter.1 hb
    exact (p.iff k hm).2 (LH.keep_iff.1 hk)
theorem Cpl.eq_log {h : LH} {r : RH} (c : Cpl h r) : h.all = r.log.all ∧ h.Y = r.log.Y ∧ h.O = r.log.O ∧ h.yb = r.log.yb ∧ h.ob = r.log.ob := ⟨c.all, c.Y, c.O, c.yb, c.ob⟩
theorem Cpl.find' {h : LH} {r : RH} (c : Cpl h r) : h.find = r.log.find := by funext k; exact c.find k
theorem Cpl.reachB {h : LH} {r : RH} (c : Cpl h r) (roots : List Wd) : h.reachB roots = r.log.reachB roots := by
  unfold LH.reachB LH.reach LH.keep
  rw [c.bad, c.find', c.all]
def RReachR (w : World) (h : LH) (roots : List Wd) (e : Ending) (w' : World) : Prop :=
  ∃ v', e = .returned (.tuple #[v', .int .i64 (if roots.any h.bad = true then 1 else 0)]) ∧ w'.ownsRow 0 3 1 v' (h.reachB roots).length ((h.reachB roots).map (Value.int .i64)) ∧ Ext w w'
set_option maxRecDepth 100000 in
set_option maxHeartbeats 8000000 in
theorem RReach_any {w : World} {base : Nat} {r : RH} (h : RRep w base r) (hB : ∀ b ∈ r.log.all, ∀ u ∈ b.ws, r.log.bad u = false) {v : Value} {roots : List Wd} (hr : RdW w v roots) (hl : roots.length ≤ 1048576) :
    Calls Try.prog 79 #[.pointer (some ⟨r.rp, 0, none⟩), v] w (RReachR w r.log roots) := by
  have HV := Lib.hid (Rrights_any h hr (by omega))
  have Hr := Lib.hid hr; have H := Lib.hid h; have HBd := Lib.hid hB
  generalize hM : RReachR w r.log roots = M
  have HM := Lib.hid hM
  clear hr hM h hB
  go_enter Try.func79, Try.ntmps79
  go_wp2_with fail
  refine HV.out.mono ?_
  rintro e w1 ⟨rfl, hx1⟩
  have HX1 := Lib.hid hx1
  clear hx1 HV
  by_cases hb : roots.any r.log.bad = true
  · rw [hb]
    go_wp2
    rw [← HM.out]
    unfold RReachR LH.reachB
    rw [if_pos hb, if_pos hb]
    exact ⟨.slice none 0 0, rfl, World.ownsRow_nil _ _ _ _, HX1.out⟩
  · have hb' : roots.any r.log.bad = false := by simpa using hb
    have Hb := Lib.hid hb
    have Hbf : Hid (∀ u ∈ roots, r.log.bad u = false) := Lib.hid fun u hu => by
      cases hc : r.log.bad u with
      | false => rfl
      | true => exact (hb (List.any_eq_true.2 ⟨u, hu, hc⟩)).elim
    have HC := Lib.hid (Rreach_any (H.out.ext HX1.out) HBd.out (yo := false) (World.ownsRow_nil _ _ _ _) (RQ.start List.Pairwise.nil (by simp) (by simp)) (Hr.out.ext HX1.out) (by omega) Hbf.out)
    rw [hb']
    clear hb hb'
    go_wp2_with fail
    refine HC.out.mono ?_
    rintro e w5 ⟨v', K, rfl, hrow, hK, hx5⟩
    have HX5 := Lib.hid (HX1.out.trans hx5)
    have HK := Lib.hid hK; have HRow := Lib.hid hrow
    clear hK hrow hx5 HC
    go_wp2_with fail
    rw [← HM.out]
    unfold RReachR
    have e1 : r.log.reachB roots = K := by unfold LH.reachB; rw [if_neg Hb.out]; exact (HK.out.reach H.out.ok).symm
    rw [if_neg Hb.out, e1]
    exact ⟨v', rfl, HRow.out, HX5.out⟩
end Go.Proofs.Ytikigppfnhilhaa
