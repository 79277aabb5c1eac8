/- The reference's numbers as texts, and back. (Written by wip/tools/genYE.py.) The reference's numbers: what a text is; what a real must be. -/
import Derived.Test.YtlaepkmnbbgbcaaGreatDoorGS5
import Derived.Test.YtlaepkmnbbgbcaaGreatDoorGB9
/- The reference's numbers as texts, and back. (Written by wip/tools/genYE.py.) -/
namespace Go.Proofs.YtlaepkmnbbgbcaaGreatDoor
open Go.RowKit Go.Instr Go.Sort
set_option linter.unusedVariables false
set_option linter.unusedSimpArgs false
attribute [local go_sem] Oper.semAt_some

/-- The byte of a digit. -/
def dgb (d : Nat) : UInt8 := UInt8.ofNat (48 + d)
theorem dgb_nat {d : Nat} (h : d < 10) : (dgb d).toNat = 48 + d := by
  unfold dgb; rw [UInt8.toNat_ofNat']; omega
theorem OwnU.form {w : World} {base : Nat} {v : Value} {l : List UInt8} (h : OwnU w base v l) : (v = .slice none 0 0 ∧ l = []) ∨ ∃ g cap, v = .slice (some ⟨g, 0, none⟩) l.length cap ∧ base ≤ g := by
  rcases h.2 with ⟨h1, h2⟩ | ⟨g, cap, cur, h1, h2, -⟩
  · exact .inl ⟨h1, List.eq_nil_of_length_eq_zero h2⟩
  · exact .inr ⟨g, cap, h1, h2⟩
theorem OwnU.cellU {w : World} {base g n cap : Nat} {l : List UInt8} (h : OwnU w base (.slice (some ⟨g, 0, none⟩) n cap) l) : ∀ j (hj : j < l.length), w.cell? ((⟨g, 0, none⟩ : Addr).add j) = some (.int .u8 (l[j].toNat : Int)) := by
  intro j hj
  have := World.ownsRow.cells (g := g) h rfl j (.int .u8 (l[j].toNat : Int)) (by rw [List.getElem?_map, List.getElem?_eq_getElem hj]; rfl)
  exact this
theorem wpList_appU {w : World} {ops : Array Oper} {rest : List Oper} {o : Oper} {a : Act} {Q : Exit → Act → World → Prop} (hgd : o.guard = none) (s x : Operand)
    (ho : o.op = .call { callee := .builtin .append, args := #[s, x], argTypes := #[98, 98] })
    (base : Nat) (v : Value) (l1 : List UInt8) (hs : a.eval s = v) (hown : OwnU w base v l1) (u : Addr) (n : UInt8) (hx : a.eval x = .slice (some u) 1 1) (hrow : w.cell? u = some (.int .u8 n.toNat))
    (hl : l1.length + 1 ≤ 1000000000) (hbase : base ≤ w.heap.size)
    (h : ∀ v' w', OwnU w' base v' (l1 ++ [n]) → ExV v w w' → wpList Tryz.prog ops Q rest (a.put o.dst v') w') : wpList Tryz.prog ops Q (o :: rest) a w := by
  obtain ⟨i0, hi, hz0, hz1, hz2⟩ := info_split info_byteC
  refine wpList_append_fresh hgd s x 98 ho base 5 i0 _ 1 1 Tryz.underlying98 hi hz0 hz1 hz2 rfl (by decide) v l1.length _ hs hown u 1 _ [.int .u8 n.toNat] hx rfl (fun j z hz => ?_) (by intro u hu; obtain rfl : u = .int .u8 n.toNat := (by simpa using hu); rfl) (by unfold maxLen; omega) (by omega) hbase ?_
  · cases j with
    | zero => simp at hz; subst hz; rw [Addr.add_zero']; exact hrow
    | succ j => simp at hz
  · intro v' w' g1 g2 g3 g4
    refine h v' w' ?_ ⟨g2.os, g2.tape, g2.output, g2.size, fun k hk hn => g2.block k hk (fun e => hn e.symm)⟩
    unfold OwnU
    rw [List.map_append, List.length_append]; exact g1
theorem own_blkU {w w' : World} {v : Value} {base b : Nat} {l : List UInt8} (ho : OwnU w base v l) (hx : ExV v w w') {cs : Array Value} {t : TypeId} (hb : Blk w b cs t) (hlt : b < base) : Blk w' b cs t := by
  refine hx.blk hb (fun h => ?_)
  rcases ho.form with ⟨rfl, -⟩ | ⟨g, cap, rfl, hg⟩
  · cases h
  · injection h with h; have h : g = b := h; omega
theorem OwnU.kept {S : Nat → Prop} {w w' : World} {base : Nat} {v : Value} {l : List UInt8} (h : OwnU w base v l) (hx : Keeps S w w') (hs : ∀ k, v.ownBlock = some k → ¬ S k) : OwnU w' base v l := by
  rcases h.2 with ⟨e, hl⟩ | ⟨g, cap, cur, e, h1, h2, h3⟩
  · exact ⟨h.1, .inl ⟨e, hl⟩⟩
  · exact ⟨h.1, .inr ⟨g, cap, cur, e, h1, (hx.block g (Array.getElem?_eq_some_iff.1 h2).1 (hs g (by rw [e]; rfl))).trans h2, h3⟩⟩
theorem exU {w w1 w2 : World} {v : Value} {base : Nat} {l : List UInt8} (hx : Ex w w1) (ho : OwnU w1 base v l) (hb : w.heap.size ≤ base) (hv : ExV v w1 w2) : Ex w w2 := by
  refine ⟨hv.os.trans hx.os, hv.tape.trans hx.tape, hv.output.trans hx.output, Nat.le_trans hx.size hv.size, fun k hk _ => ?_⟩
  rw [hv.block k (Nat.lt_of_lt_of_le hk hx.size) (fun h => ?_)]
  · exact hx.block k hk id
  · rcases ho.form with ⟨rfl, -⟩ | ⟨g, cap, rfl, hg⟩
    · cases h
    · injection h with h; have h : g = k := h; omega
theorem conv_bytes {w : World} {base : Nat} {v : Value} {l : List UInt8} (ho : OwnU w base v l) (hl : l ≠ []) : ∃ g cap, v = .slice (some ⟨g, 0, none⟩) l.length cap ∧ (convert 98 9 (.slice (some ⟨g, 0, none⟩) l.length cap)).run Tryz.prog w = .ok (.string ⟨l.toArray⟩) w := by
  rcases ho.form with ⟨-, h⟩ | ⟨g, cap, rfl, -⟩
  · exact absurd h hl
  · exact ⟨g, cap, rfl, run_convert_bytes_back w 98 9 5 _ cap l Tryz.underlying98 Tryz.underlying5 Tryz.underlying9 ho.cellU⟩
/-- The text of a number. -/
def txU (L : List Nat) (neg : Bool) : List UInt8 := (if neg then [45] else []) ++ L.reverse.map dgb
theorem drop_rev {L : List Nat} {k d : Nat} (h : L[k]? = some d) : (L.drop k).reverse.map dgb = (L.drop (k + 1)).reverse.map dgb ++ [dgb d] := by
  obtain ⟨h1, h2⟩ := List.getElem?_eq_some_iff.1 h
  rw [List.drop_eq_getElem_cons h1, List.reverse_cons, List.map_append, h2]; rfl
set_option maxRecDepth 100000 in
set_option maxHeartbeats 4000000 in
theorem Text_any {w : World} {v : Value} {L : List Nat} {neg : Bool} (h : RdL encI w v (natI L)) (hL : L ≠ []) (hd : ∀ d ∈ L, d < 10) (hl : L.length ≤ 1000) :
    Calls Tryz.prog 156 #[.agg #[v, .bool neg]] w fun e w' => e = .returned (.string ⟨(txU L neg).toArray⟩) ∧ Ex w w' := by
  obtain ⟨oa, oc, rfl, -, hn0, -⟩ := id h
  obtain ⟨n, hn⟩ : ∃ n, L.length = n + 1 := by
    cases L with
    | nil => exact absurd rfl hL
    | cons _ r => exact ⟨r.length, rfl⟩
  have hnl : (natI L).length = n + 1 := by rw [natI_len, hn]
  rw [hnl] at h ⊢
  obtain ⟨oa, rfl⟩ : ∃ ad, oa = some ad := by
    cases oa with
    | none => have := hn0 rfl; rw [this] at hnl; simp at hnl
    | some ad => exact ⟨ad, rfl⟩
  obtain ⟨bo, hbo⟩ : ∃ b, w.heap.size = b := ⟨_, rfl⟩
  obtain ⟨W1, hW1⟩ : ∃ W1, w.alloc (.cells #[.slice (some oa) (n + 1) oc, .bool neg] 171) = W1 := ⟨_, rfl⟩
  have hX1 : Ex w W1 := by rw [← hW1]; exact (Keeps.refl _ w).alloc _
  have hB1 : Blk W1 bo #[.slice (some oa) (n + 1) oc, .bool neg] 171 := by rw [← hW1, ← hbo]; exact Blk.new w _ _
  have hs1 : W1.heap.size = bo + 1 := by rw [← hW1, World.size_alloc, hbo]
  have e0 : W1.cell? ⟨bo, 0, none⟩ = some (.slice (some oa) (n + 1) oc) := (hB1.cell 0).trans rfl
  have e1 : W1.cell? ⟨bo, 1, none⟩ = some (.bool neg) := (hB1.cell 1).trans rfl
  have HR : Hid (RdL encI W1 (.slice (some oa) (n + 1) oc) (natI L)) := Lib.hid (h.ext hX1)
  generalize hS : ByteArray.mk (txU L neg).toArray = S
  generalize hM : (fun (e : Ending) (w' : World) => e = .returned (.string S) ∧ Ex w w') = M
  have HM := Lib.hid hM
  have HSx := Lib.hid hS
  have HW1 := Lib.hid hW1; have Hbo := Lib.hid hbo; have HX1 := Lib.hid hX1; have HB1 := Lib.hid hB1; have Hs1 := Lib.hid hs1; have Hn := Lib.hid hn; have Hd := Lib.hid hd
  have hn9 : n ≤ 1000 := by omega
  clear h hnl hn0 hL hW1 hbo hX1 hB1 hs1 hM hS hn hd hl
  have s1 : IntKind.i64.wrap ((n : Int) + 1 - 1) = (n : Int) := by simp [IntKind.wrap_i64]; omega
  have b0 : ((n : Int) + 1 == 0) = false := by rw [beq_eq_false_iff_ne]; omega
  cases neg with
  | false =>
    go_enter Tryz.func156, Tryz.ntmps156
    go_upto_region 1 with fail
    rw [HW1.out]
    try rw [Hbo.out]
    go_wp2_with fail
    have HO0 : Hid (OwnU W1 (bo + 1) (.slice none 0 0) []) := Lib.hid (World.ownsRow_nil W1 _ _ 1)
    have HXa : Hid (Ex W1 W1) := Lib.hid (Keeps.refl _ W1)
    go_loopw [3, 4] (fun s3 s4 wr => ∃ (k : Nat) (u : Value), k ≤ n + 1 ∧ s3 = u ∧ s4 = .int .i64 ((k : Int) - 1) ∧ Hid (OwnU wr (bo + 1) u (([] : List UInt8) ++ (L.drop k).reverse.map dgb)) ∧ Hid (Ex W1 wr)) (fun s3 s4 wr => (intOf s4 + 1).toNat)
    case atStart => exact ⟨n + 1, _, Nat.le_refl _, rfl, by rw [show (((n + 1 : Nat) : Int) - 1) = (n : Int) by omega], by rw [← Hn.out, List.drop_length]; exact HO0, HXa⟩
    case round =>
      obtain ⟨k, u, hk, rfl, rfl, HO, HX⟩ := hrel
      have e0 : wr.cell? ⟨bo, 0, none⟩ = some (.slice (some oa) (n + 1) oc) := ((HX.out.blk HB1.out id).cell 0).trans rfl
      cases k with
      | zero =>
        obtain ⟨g, cap, hu, hq⟩ := conv_bytes HO.out (by rw [List.drop_zero]; intro h0; have h1 := congrArg List.length h0; have h2 := Hn.out; simp only [List.length_append, List.length_map, List.length_reverse, List.length_nil, List.length_cons] at h1; omega)
        subst hu
        have hSS : ByteArray.mk (([] : List UInt8) ++ (L.drop 0).reverse.map dgb).toArray = S := by rw [← HSx.out, List.drop_zero]; rfl
        rw [hSS] at hq
        clear hSS
        generalize (([] : List UInt8) ++ (L.drop 0).reverse.map dgb).length = q at hq
        go_wp2_with fail
        rw [← HM.out]
        exact ⟨rfl, HX1.out.trans HX.out⟩
      | succ k =>
        have s2 : ((k + 1 : Nat) : Int) - 1 = (k : Int) := by omega
        rw [s2]
        obtain ⟨d, hdk⟩ : ∃ d, L[k]? = some d := ⟨_, List.getElem?_eq_getElem (by rw [Hn.out]; omega)⟩
        have hd10 := Hd.out d (List.mem_of_getElem? hdk)
        have z0 : wr.cell? (oa.add k) = some (.int .i64 (d : Int)) := by
          have h1 := (HR.out.ext HX.out).int_at (k := k) (by rw [natI_len, Hn.out]; omega)
          rw [List.getD_eq_getElem?_getD, natI, List.getElem?_map, hdk] at h1; exact h1
        have s3 : wrap64 (48 + (d : Int)) = 48 + (d : Int) := by unfold wrap64; omega
        have s4 : IntKind.u8.wrap (48 + (d : Int)) = ((dgb d).toNat : Int) := by rw [dgb_nat hd10]; simp [IntKind.wrap, IntKind.signed, IntKind.bits]; omega
        have s5 : wrap64 ((k : Int) - 1) = (k : Int) - 1 := by unfold wrap64; omega
        have Hdk := Lib.hid hdk
        clear hdk
        go_wp2_with (at_builtin; refine (fun h => h trivial : (True → _) → _) ?_)
        intro _
        obtain ⟨Wb, hWb⟩ : ∃ Wb, wr.alloc (.cells #[.int .u8 ((dgb d).toNat : Int)] 5) = Wb := ⟨_, rfl⟩
        obtain ⟨bb, hbb⟩ : ∃ b, wr.heap.size = b := ⟨_, rfl⟩
        have hXb : Ex wr Wb := by rw [← hWb]; exact (Keeps.refl _ _).alloc _
        have hzb : Wb.cell? ⟨bb, 0, none⟩ = some (.int .u8 ((dgb d).toNat : Int)) := by rw [← hWb, ← hbb]; exact ((Blk.new wr _ _).cell 0).trans rfl
        have hob := HO.out.kept hXb (fun _ _ => id)
        rw [hWb, hbb]
        refine wpList_appU rfl _ _ rfl (bo + 1) _ _ rfl hob _ (dgb d) rfl hzb (by have := Hn.out; simp; omega) (by have h1 := HX.out.size; have h2 := hXb.size; rw [Hs1.out] at h1; omega) ?_
        intro v7 W7 ho7 hx7
        have HX7 : Hid (Ex W1 W7) := Lib.hid (exU (HX.out.trans hXb) hob (by rw [Hs1.out]; exact Nat.le_refl _) hx7)
        have HO7 : Hid (OwnU W7 (bo + 1) v7 (([] : List UInt8) ++ (L.drop k).reverse.map dgb)) := Lib.hid (by rw [drop_rev Hdk.out, ← List.append_assoc]; exact ho7)
        clear hWb hXb hzb hob ho7 hx7 hbb e0 z0
        go_wp2_with fail
        go_roundw
        case rel => exact ⟨k, _, by omega, rfl, by go_num, HO7, HX7⟩
        case measure => first | (simp [intOf]; done) | (simp [intOf]; omega)
  | true =>
    go_enter Tryz.func156, Tryz.ntmps156
    go_upto_region 1 with fail
    rw [HW1.out]
    try rw [Hbo.out]
    go_wp2_with (at_builtin; refine (fun h => h trivial : (True → _) → _) ?_)
    intro _
    obtain ⟨Wa, hWa⟩ : ∃ Wa, W1.alloc (.cells #[.int .u8 45] 5) = Wa := ⟨_, rfl⟩
    have hXa : Ex W1 Wa := by rw [← hWa]; exact (Keeps.refl _ _).alloc _
    have hza : Wa.cell? ⟨bo + 1, 0, none⟩ = some (.int .u8 45) := by rw [← hWa, ← Hs1.out]; exact ((Blk.new W1 _ _).cell 0).trans rfl
    rw [hWa]
    try rw [Hs1.out]
    refine wpList_appU rfl _ _ rfl (bo + 1) _ [] rfl (World.ownsRow_nil Wa _ _ 1) _ 45 rfl hza (by simp) (by have h1 := hXa.size; have h2 := Hs1.out; omega) ?_
    intro v6 W6 ho6 hx6
    have HXa : Hid (Ex W1 W6) := Lib.hid (exU (base := bo + 1) (l := []) hXa (World.ownsRow_nil Wa _ _ 1) (by rw [Hs1.out]; exact Nat.le_refl _) hx6)
    have HO0 : Hid (OwnU W6 (bo + 1) v6 [45]) := Lib.hid ho6
    have e0 : W6.cell? ⟨bo, 0, none⟩ = some (.slice (some oa) (n + 1) oc) := ((HXa.out.blk HB1.out id).cell 0).trans rfl
    clear hWa hXa hza ho6 hx6
    go_wp2_with fail
    go_loopw [3, 4] (fun s3 s4 wr => ∃ (k : Nat) (u : Value), k ≤ n + 1 ∧ s3 = u ∧ s4 = .int .i64 ((k : Int) - 1) ∧ Hid (OwnU wr (bo + 1) u (([45] : List UInt8) ++ (L.drop k).reverse.map dgb)) ∧ Hid (Ex W1 wr)) (fun s3 s4 wr => (intOf s4 + 1).toNat)
    case atStart => exact ⟨n + 1, _, Nat.le_refl _, rfl, by rw [show (((n + 1 : Nat) : Int) - 1) = (n : Int) by omega], by rw [← Hn.out, List.drop_length]; exact HO0, HXa⟩
    case round =>
      obtain ⟨k, u, hk, rfl, rfl, HO, HX⟩ := hrel
      have e0 : wr.cell? ⟨bo, 0, none⟩ = some (.slice (some oa) (n + 1) oc) := ((HX.out.blk HB1.out id).cell 0).trans rfl
      cases k with
      | zero =>
        obtain ⟨g, cap, hu, hq⟩ := conv_bytes HO.out (by rw [List.drop_zero]; intro h0; have h1 := congrArg List.length h0; have h2 := Hn.out; simp only [List.length_append, List.length_map, List.length_reverse, List.length_nil, List.length_cons] at h1; omega)
        subst hu
        have hSS : ByteArray.mk (([45] : List UInt8) ++ (L.drop 0).reverse.map dgb).toArray = S := by rw [← HSx.out, List.drop_zero]; rfl
        rw [hSS] at hq
        clear hSS
        generalize (([45] : List UInt8) ++ (L.drop 0).reverse.map dgb).length = q at hq
        go_wp2_with fail
        rw [← HM.out]
        exact ⟨rfl, HX1.out.trans HX.out⟩
      | succ k =>
        have s2 : ((k + 1 : Nat) : Int) - 1 = (k : Int) := by omega
        rw [s2]
        obtain ⟨d, hdk⟩ : ∃ d, L[k]? = some d := ⟨_, List.getElem?_eq_getElem (by rw [Hn.out]; omega)⟩
        have hd10 := Hd.out d (List.mem_of_getElem? hdk)
        have z0 : wr.cell? (oa.add k) = some (.int .i64 (d : Int)) := by
          have h1 := (HR.out.ext HX.out).int_at (k := k) (by rw [natI_len, Hn.out]; omega)
          rw [List.getD_eq_getElem?_getD, natI, List.getElem?_map, hdk] at h1; exact h1
        have s3 : wrap64 (48 + (d : Int)) = 48 + (d : Int) := by unfold wrap64; omega
        have s4 : IntKind.u8.wrap (48 + (d : Int)) = ((dgb d).toNat : Int) := by rw [dgb_nat hd10]; simp [IntKind.wrap, IntKind.signed, IntKind.bits]; omega
        have s5 : wrap64 ((k : Int) - 1) = (k : Int) - 1 := by unfold wrap64; omega
        have Hdk := Lib.hid hdk
        clear hdk
        go_wp2_with (at_builtin; refine (fun h => h trivial : (True → _) → _) ?_)
        intro _
        obtain ⟨Wb, hWb⟩ : ∃ Wb, wr.alloc (.cells #[.int .u8 ((dgb d).toNat : Int)] 5) = Wb := ⟨_, rfl⟩
        obtain ⟨bb, hbb⟩ : ∃ b, wr.heap.size = b := ⟨_, rfl⟩
        have hXb : Ex wr Wb := by rw [← hWb]; exact (Keeps.refl _ _).alloc _
        have hzb : Wb.cell? ⟨bb, 0, none⟩ = some (.int .u8 ((dgb d).toNat : Int)) := by rw [← hWb, ← hbb]; exact ((Blk.new wr _ _).cell 0).trans rfl
        have hob := HO.out.kept hXb (fun _ _ => id)
        rw [hWb, hbb]
        refine wpList_appU rfl _ _ rfl (bo + 1) _ _ rfl hob _ (dgb d) rfl hzb (by have := Hn.out; simp; omega) (by have h1 := HX.out.size; have h2 := hXb.size; rw [Hs1.out] at h1; omega) ?_
        intro v7 W7 ho7 hx7
        have HX7 : Hid (Ex W1 W7) := Lib.hid (exU (HX.out.trans hXb) hob (by rw [Hs1.out]; exact Nat.le_refl _) hx7)
        have HO7 : Hid (OwnU W7 (bo + 1) v7 (([45] : List UInt8) ++ (L.drop k).reverse.map dgb)) := Lib.hid (by rw [drop_rev Hdk.out, ← List.append_assoc]; exact ho7)
        clear hWb hXb hzb hob ho7 hx7 hbb e0 z0
        go_wp2_with fail
        go_roundw
        case rel => exact ⟨k, _, by omega, rfl, by go_num, HO7, HX7⟩
        case measure => first | (simp [intOf]; done) | (simp [intOf]; omega)
end Go.Proofs.YtlaepkmnbbgbcaaGreatDoor
/- The reference's numbers: what a text is; what a real must be. -/
namespace Go.Proofs.YtlaepkmnbbgbcaaGreatDoor
open Go.RowKit Go.Instr Go.Sort
set_option linter.unusedVariables false
set_option linter.unusedSimpArgs false
attribute [local go_sem] Oper.semAt_some

theorem append_natI {w : World} {base : Nat} {v : Value} {L : List Nat} (hown : OwnI w base v (natI L)) (ty : TypeId) (u : Addr) (d : Nat) (hz : w.cell? u = some (.int .i64 (d : Int))) (hl : L.length ≤ 1000) (hb : base ≤ w.heap.size) :
    ∃ v' w', (Builtin.append_ #[169, 169] ty #[v, .slice (some u) 1 1]).run Tryz.prog w = .ok v' w' ∧ OwnI w' base v' (natI (L ++ [d])) ∧ ExV v w w' := by
  obtain ⟨i0, hi, hz0, hz1, hz2⟩ := info_split info_intC
  obtain ⟨v', w', hr, g1, g2, -, -⟩ := append_own_fresh (P := Tryz.prog) w base 169 ty 3 i0 _ 1 8 Tryz.underlying169 hi hz0 hz1 hz2 rfl (by decide) v _ _ hown u 1 1 [.int .i64 (d : Int)] rfl (fun j z hj => by
    cases j with
    | zero => simp at hj; subst hj; rw [Addr.add_zero']; exact hz
    | succ j => simp at hj) (by intro u hu; obtain rfl : u = .int .i64 (d : Int) := (by simpa using hu); rfl) (by rw [natI_len]; unfold maxLen; omega) (by rw [natI_len]; omega) hb
  refine ⟨v', w', hr, ?_, ⟨g2.os, g2.tape, g2.output, g2.size, fun k hk hn => g2.block k hk (fun e => hn e.symm)⟩⟩
  have e : natI (L ++ [d]) = natI L ++ [(d : Int)] := by unfold natI; rw [List.map_append]; rfl
  rw [e]
  unfold OwnI
  rw [List.map_append, List.length_append]; exact g1
theorem wpListIn_append_run {n : Nat} {w w2 : World} {ops : Array Oper} {rest : List Oper} {o : Oper} {a : Act} {Q : Exit → Act → World → Prop} (hgd : o.guard = none) (s x : Operand) (t : TypeId)
    (ho : o.op = .call { callee := .builtin .append, args := #[s, x], argTypes := #[t, t] }) (v : Value) (hrun : (Builtin.append_ #[t, t] o.type #[a.eval s, a.eval x]).run Tryz.prog w = .ok v w2)
    (h : wpListIn (WF none) n Tryz.prog ops Q rest (a.put o.dst v) w2) : wpListIn (WF none) n Tryz.prog ops Q (o :: rest) a w := by
  refine wpListIn_plain hgd fun K hK => ⟨fun f hf => ?_, ?_⟩
  · exact trivial
  · have : (o.semAt (WF none).round a.eval).run Tryz.prog w = .ok (.value v) w2 := by
      show (o.semAt none a.eval).run Tryz.prog w = _
      simp only [Oper.semAt, execOp, ho, resolve, invoke, builtin, Sem.run_bind, Sem.run_pure, Result.andThen_ok, List.map_toArray, List.map_cons, List.map_nil, hrun]
    rw [this]
    exact hK _ _ h
theorem natI_form {w : World} {base : Nat} {v : Value} {L : List Nat} (h : OwnI w base v (natI L)) : ∃ oa oc, v = .slice oa L.length oc := by
  rcases h.form with ⟨rfl, h2⟩ | ⟨g, cap, rfl, -⟩
  · exact ⟨none, 0, by have := congrArg List.length h2; rw [natI_len] at this; rw [this]; rfl⟩
  · exact ⟨_, _, by rw [natI_len]⟩
theorem natI_rd {w : World} {base : Nat} {v : Value} {L : List Nat} (h : OwnI w base v (natI L)) : RdL encI w v (natI L) := by
  unfold OwnI at h
  rw [← encI_flat] at h
  exact own_rd encI_len h
theorem take_succ_of {α : Type} {l : List α} {k : Nat} {x : α} (h : l[k]? = some x) : l.take (k + 1) = l.take k ++ [x] := by rw [List.take_add_one, h]; rfl
set_option maxRecDepth 100000 in
set_option maxHeartbeats 4000000 in
theorem Of_plain {w : World} {s : ByteArray} {D : List Nat} {n : Nat} (hs : s.data.toList = txU D false) (hD : D.length = n + 1) (hd : ∀ d ∈ D, d < 10) (hlast : ∀ d, D.getLast? = some d → d ≠ 0) (hl : n ≤ 100) :
    Calls Tryz.prog 127 #[.string s] w fun e w' => (∃ a c, e = .returned (.agg #[.slice a (n + 1) c, .bool false])) ∧ Ex w w' := by
  have hss : s.size = n + 1 := by rw [← bytes_len, hs]; simp [txU, hD]
  obtain ⟨dl, hdl⟩ : ∃ d, D[n]? = some d := ⟨_, List.getElem?_eq_getElem (by omega)⟩
  have hdl0 : dl ≠ 0 := hlast dl (by rw [List.getLast?_eq_getElem?, hD]; exact hdl)
  have hch : ∀ p, p ≤ n → ∀ (h : n - p < s.size), ∃ d, D[p]? = some d ∧ d < 10 ∧ s[n - p]'h = dgb d := by
    intro p hp h
    obtain ⟨d, hdp⟩ : ∃ d, D[p]? = some d := ⟨_, List.getElem?_eq_getElem (by omega)⟩
    refine ⟨d, hdp, hd d (List.mem_of_getElem? hdp), ?_⟩
    have h1 := str_get h rfl
    rw [hs] at h1
    simp only [txU, Bool.false_eq_true, if_false, List.nil_append, List.getElem?_map] at h1
    rw [List.getElem?_reverse (by omega), hD, show n + 1 - 1 - (n - p) = p by omega, hdp] at h1
    exact (Option.some.inj h1).symm
  have hs0 : 0 < s.size := by omega
  obtain ⟨m, hm⟩ : ∃ b, s[0]'hs0 = b := ⟨_, rfl⟩
  have hm45 : ¬ ((m.toNat : Nat) : Int) = 45 := by
    obtain ⟨d, h1, h2, h3⟩ := hch n (Nat.le_refl _) (by omega)
    have e : s[n - n]'(by omega) = m := by rw [← hm]; congr 1; omega
    rw [← e, h3, dgb_nat h2]; omega
  obtain ⟨b2, hb2⟩ : ∃ b, w.heap.size = b := ⟨_, rfl⟩
  obtain ⟨W1, hW1⟩ : ∃ W1, w.alloc (.cells #[.slice none 0 0, .bool false] 171) = W1 := ⟨_, rfl⟩
  have hX1 : Ex w W1 := by rw [← hW1]; exact (Keeps.refl _ w).alloc _
  have hB1 : Blk W1 b2 #[.slice none 0 0, .bool false] 171 := by rw [← hW1, ← hb2]; exact Blk.new w _ _
  have hs1 : W1.heap.size = b2 + 1 := by rw [← hW1, World.size_alloc, hb2]
  obtain ⟨W2, hW2⟩ : ∃ W2, W1.alloc (.cells #[.slice none 0 0, .bool false] 171) = W2 := ⟨_, rfl⟩
  have hX12 : Ex W1 W2 := by rw [← hW2]; exact (Keeps.refl _ W1).alloc _
  have HB2 : Hid (Blk W2 b2 #[.slice none 0 0, .bool false] 171) := Lib.hid (hX12.blk hB1 id)
  have HB3 : Hid (Blk W2 (b2 + 1) #[.slice none 0 0, .bool false] 171) := Lib.hid (by rw [← hW2, ← hs1]; exact Blk.new W1 _ _)
  have HX2 : Hid (Ex w W2) := Lib.hid (hX1.trans hX12)
  have HD := Lib.hid hD; have Hdl := Lib.hid hdl; have Hch := Lib.hid hch; have Hss := Lib.hid hss
  have HW1 := Lib.hid hW1; have HW2 := Lib.hid hW2; have Hb2 := Lib.hid hb2; have Hs1 := Lib.hid hs1
  generalize hM : (fun (e : Ending) (w' : World) => (∃ a c, e = .returned (.agg #[.slice a (n + 1) c, .bool false])) ∧ Ex w w') = M
  have HM := Lib.hid hM
  clear hs hD hd hlast hdl hch hX1 hB1 hX12 hW1 hW2 hb2 hs1 hM
  have s0 : wrap64 ((s.size : Int) - 1) = (n : Int) := by rw [Hss.out]; unfold wrap64; omega
  clear hss
  have hmb : (((m.toNat : Nat) : Int) == 45) = false := by simpa using hm45
  go_enter Tryz.func127, Tryz.ntmps127
  go_upto_region 2 with fail
  rw [HW1.out]
  try rw [Hb2.out]
  rw [HW2.out]
  try rw [Hs1.out]
  go_wp2_with fail
  go_loopw [4] (fun s4 wr => ∃ (p : Nat) (v : Value), p ≤ n + 1 ∧ s4 = .int .i64 ((n : Int) - p) ∧ Hid (Blk wr b2 #[.slice none 0 0, .bool false] 171) ∧ Hid (Blk wr (b2 + 1) #[v, .bool false] 171) ∧ Hid (OwnI wr (b2 + 2) v (natI (D.take p))) ∧ Hid (Ex w wr)) (fun s4 wr => (intOf s4 + 1).toNat)
  case atStart => exact ⟨0, _, by omega, by go_num, HB2, HB3, Lib.hid (World.ownsRow_nil W2 _ _ 1), HX2⟩
  case round =>
    obtain ⟨p, v, hp, rfl, HBa, HBb, HO, HX⟩ := hrel
    clear s0
    obtain ⟨oa, oc, rfl⟩ := natI_form HO.out
    have hlt : (D.take p).length = p := by rw [List.length_take, HD.out]; omega
    rw [hlt] at HBb HO
    have e0 : wr.cell? ⟨b2 + 1, 0, none⟩ = some (.slice oa p oc) := (HBb.out.cell 0).trans rfl
    by_cases hpn : p = n + 1
    case pos =>
      subst hpn
      obtain ⟨oa, rfl⟩ : ∃ ad, oa = some ad := by
        rcases HO.out.form with ⟨h1, h2⟩ | ⟨g, cap, h1, -⟩
        · have := congrArg List.length h2; rw [natI_len, hlt] at this; simp at this
        · injection h1 with h1; exact ⟨_, h1⟩
      have hyl : (natI (D.take (n + 1)))[n]? = some (dl : Int) := by
        unfold natI; rw [List.getElem?_map, List.getElem?_take_of_lt (by omega), Hdl.out]; rfl
      have HCall := Lib.hid (trim_any (natI_rd HO.out) (by omega) hyl (by omega))
      have e1 : wr.cell? ⟨b2 + 1, 1, none⟩ = some (.bool false) := (HBb.out.cell 1).trans rfl
      have f0 : wr.frozen? ⟨b2 + 1, 0, none⟩ = false := HBb.out.frozen _
      obtain ⟨W7, hW7⟩ : ∃ W7, wr.setCell ⟨b2 + 1, 0, none⟩ (.slice (some oa) (n + 1) oc) = W7 := ⟨_, rfl⟩
      have hB7 : Blk W7 (b2 + 1) #[.slice (some oa) (n + 1) oc, .bool false] 171 := by rw [← hW7]; exact HBb.out.set 0 _
      have hX7 : Ex w W7 := by rw [← hW7]; exact HX.out.setCell (.inr (by rw [Hb2.out]; exact Nat.le_succ _)) _
      have hBa7 : Blk W7 b2 #[.slice none 0 0, .bool false] 171 := by rw [← hW7]; exact HBa.out.far (a := ⟨b2 + 1, 0, none⟩) (by show b2 ≠ b2 + 1; omega) _
      have g0 : W7.cell? ⟨b2 + 1, 0, none⟩ = some (.slice (some oa) (n + 1) oc) := (hB7.cell 0).trans rfl
      have g1 : W7.cell? ⟨b2 + 1, 1, none⟩ = some (.bool false) := (hB7.cell 1).trans rfl
      have g2 : W7.cell? ⟨b2, 0, none⟩ = some (.slice none 0 0) := (hBa7.cell 0).trans rfl
      have g3 : W7.cell? ⟨b2, 1, none⟩ = some (.bool false) := (hBa7.cell 1).trans rfl
      have f2 : W7.frozen? ⟨b2, 0, none⟩ = false := hBa7.frozen _
      have f3 : W7.frozen? ⟨b2, 1, none⟩ = false := hBa7.frozen _
      have HW7 := Lib.hid hW7; have HX7 := Lib.hid hX7; have HB7 := Lib.hid hB7; have HBa7 := Lib.hid hBa7
      clear hlt hyl hW7 hX7 hB7 hBa7
      go_upto_region 10 with fail
      refine HCall.out.mono ?_
      rintro e w2 ⟨rfl, rfl⟩
      go_upto_region 10 with fail
      try rw [HW7.out]
      go_wp2_with fail
      have hBr : Blk ((W7.setCell ⟨b2, 0, none⟩ (.slice (some oa) (n + 1) oc)).setCell ⟨b2, 1, none⟩ (.bool false)) b2 #[.slice (some oa) (n + 1) oc, .bool false] 171 := (HBa7.out.set 0 _).set 1 _
      refine bodyPost_ret (results_cell_row rfl _ _ b2 171 _ (0, 0) _ rfl hBr Tryz.underlying171 rfl (by kernel_rfl)) rfl ?_
      rw [← HM.out]
      refine ⟨⟨_, _, rfl⟩, ?_⟩
      exact (HX7.out.setCell (.inr (by rw [Hb2.out]; exact Nat.le_refl _)) _).setCell (.inr (by rw [Hb2.out]; exact Nat.le_refl _)) _
    case neg =>
      have hpn2 : p ≤ n := by omega
      have hix : n - p < s.size := by rw [Hss.out]; omega
      obtain ⟨d, hdp, hd10, hsd⟩ := Hch.out p hpn2 hix
      have i0 : ((n : Int) - p).toNat = n - p := by omega
      have i1 : (0 : Int) ≤ (n : Int) - p := by omega
      have i2 : (n : Int) - p < s.size := by omega
      have i3 : IntKind.u8.wrap ((((dgb d).toNat : Nat) : Int) - 48) = (d : Int) := by rw [dgb_nat hd10]; simp [IntKind.wrap, IntKind.signed, IntKind.bits]; omega
      have Hdp := Lib.hid hdp
      clear hdp
      obtain ⟨W3, hW3⟩ : ∃ W3, wr.drew = W3 := ⟨_, rfl⟩
      have hX3 : Ex wr W3 := by rw [← hW3]; exact (Keeps.refl _ _).drew
      obtain ⟨W4, hW4⟩ : ∃ W4, W3.alloc (.cells #[.int .i64 (d : Int)] 3) = W4 := ⟨_, rfl⟩
      obtain ⟨b4, hb4⟩ : ∃ b, W3.heap.size = b := ⟨_, rfl⟩
      have hX4 : Ex W3 W4 := by rw [← hW4]; exact (Keeps.refl _ _).alloc _
      have hz4 : W4.cell? ⟨b4, 0, none⟩ = some (.int .i64 (d : Int)) := by rw [← hW4, ← hb4]; exact ((Blk.new W3 _ _).cell 0).trans rfl
      have hX34 := hX3.trans hX4
      have hB4 := hX34.blk HBb.out id
      have hBa4 := hX34.blk HBa.out id
      have ho4 := HO.out.kept hX34 fun _ _ => id
      obtain ⟨v5, W5, q5, ho5, hx5⟩ := append_natI ho4 169 ⟨b4, 0, none⟩ d hz4 (by rw [hlt]; omega) (by have := hB4.lt; omega)
      rw [← take_succ_of Hdp.out] at ho5
      have hB5 := own_blkN ho4 hx5 hB4 (by omega)
      have hBa5 := own_blkN ho4 hx5 hBa4 (by omega)
      obtain ⟨W6, hW6⟩ : ∃ W6, W5.setCell ⟨b2 + 1, 0, none⟩ v5 = W6 := ⟨_, rfl⟩
      have HBb6 : Hid (Blk W6 (b2 + 1) #[v5, .bool false] 171) := Lib.hid (by rw [← hW6]; exact hB5.set 0 _)
      have HBa6 : Hid (Blk W6 b2 #[.slice none 0 0, .bool false] 171) := Lib.hid (by rw [← hW6]; exact hBa5.far (a := ⟨b2 + 1, 0, none⟩) (by show b2 ≠ b2 + 1; omega) _)
      have HO6 : Hid (OwnI W6 (b2 + 2) v5 (natI (D.take (p + 1)))) := Lib.hid (by rw [← hW6]; exact ho5.set_below (by omega) _)
      have HX6 : Hid (Ex w W6) := Lib.hid (by rw [← hW6]; exact ((HX.out.trans hX34).ex ho4 (by rw [Hb2.out]; omega) hx5).setCell (.inr (by rw [Hb2.out]; exact Nat.le_succ _)) _)
      have HS : Hid (W3.cell? ⟨b2 + 1, 0, none⟩ = some (.slice oa p oc)) := Lib.hid (((hX3.blk HBb.out id).cell 0).trans rfl)
      have HS4 : Hid (W4.cell? ⟨b2 + 1, 0, none⟩ = some (.slice oa p oc)) := Lib.hid ((hB4.cell 0).trans rfl)
      have f5 : W5.frozen? ⟨b2 + 1, 0, none⟩ = false := hB5.frozen _
      have c5 : W5.cell? ⟨b2 + 1, 0, none⟩ = some (.slice oa p oc) := (hB5.cell 0).trans rfl
      obtain ⟨oa5, oc5, hv5⟩ := natI_form ho5
      have hl5 : (D.take (p + 1)).length = p + 1 := by rw [List.length_take, HD.out]; omega
      rw [hl5] at hv5
      subst hv5
      have HW4 := Lib.hid hW4; have Hb4 := Lib.hid hb4; have HW6 := Lib.hid hW6
      have s9 : wrap64 ((n : Int) - p - 1) = (n : Int) - ((p + 1 : Nat) : Int) := by unfold wrap64; omega
      clear hX3 hX4 hz4 hX34 hB4 hBa4 ho4 ho5 hx5 hB5 hBa5 hW4 hb4 hW6 hl5 hlt
      go_upto_region 8 with fail
      refine region_U_plain (n := 9) (fun V => V.cell? ⟨b2 + 1, 0, none⟩ = some (.slice oa p oc)) 8 (by kernel_rfl) ?_
      rw [hW3]
      clear hW3 e0
      refine anyU_quiet (a2 := ?a0) 0 rfl rfl rfl (by kernel_rfl) (by kernel_rfl) (by kernel_rfl) (by kernel_rfl) (by kernel_rfl) (by kernel_rfl) (fun _ _ _ _ h => h) HS.out ?h0 ?k0
      case h0 => intro W hW K hK; obtain q0 := hW; go_simp; exact hK
      refine anyU_quiet (a2 := ?a1) 1 rfl rfl rfl (by kernel_rfl) (by kernel_rfl) (by kernel_rfl) (by kernel_rfl) (by kernel_rfl) (by kernel_rfl) (fun _ _ _ _ h => h) HS.out ?h1 ?k1
      case h1 => intro W hW K hK; obtain q0 := hW; go_simp; exact hK
      refine anyU_quiet (a2 := ?a2) 2 rfl rfl rfl (by kernel_rfl) (by kernel_rfl) (by kernel_rfl) (by kernel_rfl) (by kernel_rfl) (by kernel_rfl) (fun _ _ _ _ h => h) HS.out ?h2 ?k2
      case h2 => intro W hW K hK; obtain q0 := hW; go_simp; exact hK
      refine anyU_quiet (a2 := ?a3) 3 rfl rfl rfl (by kernel_rfl) (by kernel_rfl) (by kernel_rfl) (by kernel_rfl) (by kernel_rfl) (by kernel_rfl) (fun _ _ _ _ h => h) HS.out ?h3 ?k3
      case h3 => intro W hW K hK; obtain q0 := hW; go_simp; exact hK
      refine anyU_quiet (a2 := ?a4) 4 rfl rfl rfl (by kernel_rfl) (by kernel_rfl) (by kernel_rfl) (by kernel_rfl) (by kernel_rfl) (by kernel_rfl) (fun _ _ _ _ h => h) HS.out ?h4 ?k4
      case h4 => intro W hW K hK; obtain q0 := hW; go_simp; exact hK
      refine anyU_quiet (a2 := ?a5) 5 rfl rfl rfl (by kernel_rfl) (by kernel_rfl) (by kernel_rfl) (by kernel_rfl) (by kernel_rfl) (by kernel_rfl) (fun _ _ _ _ h => h) HS.out ?h5 ?k5
      case h5 => intro W hW K hK; obtain q0 := hW; go_simp; exact hK
      refine anyU_quiet (a2 := ?a6) 6 rfl rfl rfl (by kernel_rfl) (by kernel_rfl) (by kernel_rfl) (by kernel_rfl) (by kernel_rfl) (by kernel_rfl) (fun _ _ _ _ h => h) HS.out ?h6 ?k6
      case h6 => intro W hW K hK; obtain q0 := hW; go_simp; exact hK
      refine anyU_only 7 rfl (by kernel_rfl) ?_
      gi_wp2
      rw [HW4.out]
      try rw [Hb4.out]
      refine And.intro (.inr HS4.out) ?_
      refine anyU_only 8 rfl (by kernel_rfl) ?_
      refine wpListIn_append_run rfl _ _ 169 rfl _ q5 ?_
      gi_wp2
      refine And.intro (.inl (by kernel_rfl)) ?_
      refine anyU_only 9 rfl (by kernel_rfl) ?_
      gi_wp2
      refine And.intro (.inl (by kernel_rfl)) ?_
      refine anyU_only 10 rfl (by kernel_rfl) ?_
      gi_wp2
      rw [HW6.out]
      refine And.intro (.inl (by kernel_rfl)) ?_
      refine anyU_done (by kernel_rfl) ?_ _
      clear q5 f5 c5 i0 i1 i2 i3
      go_wp2_with fail
      go_roundw
      case rel => exact ⟨p + 1, _, by omega, by go_num, HBa6, HBb6, HO6, HX6⟩
      case measure => first | (simp [intOf]; done) | (simp [intOf]; omega)
set_option maxRecDepth 100000 in
set_option maxHeartbeats 4000000 in
theorem Of_neg {w : World} {s : ByteArray} {D : List Nat} {n : Nat} (hs : s.data.toList = txU D true) (hD : D.length = n + 1) (hd : ∀ d ∈ D, d < 10) (hlast : ∀ d, D.getLast? = some d → d ≠ 0) (hl : n ≤ 100) :
    Calls Tryz.prog 127 #[.string s] w fun e w' => (∃ a c, e = .returned (.agg #[.slice a (n + 1) c, .bool true])) ∧ Ex w w' := by
  obtain ⟨T, hT⟩ : ∃ T, s.extract 1 s.size = T := ⟨_, rfl⟩
  have hTl : T.data.toList = txU D false := by rw [← hT, cut_one, hs]; rfl
  have hss : T.size = n + 1 := by rw [← bytes_len, hTl]; simp [txU, hD]
  obtain ⟨dl, hdl⟩ : ∃ d, D[n]? = some d := ⟨_, List.getElem?_eq_getElem (by omega)⟩
  have hdl0 : dl ≠ 0 := hlast dl (by rw [List.getLast?_eq_getElem?, hD]; exact hdl)
  have hch : ∀ p, p ≤ n → ∀ (h : n - p < T.size), ∃ d, D[p]? = some d ∧ d < 10 ∧ T[n - p]'h = dgb d := by
    intro p hp h
    obtain ⟨d, hdp⟩ : ∃ d, D[p]? = some d := ⟨_, List.getElem?_eq_getElem (by omega)⟩
    refine ⟨d, hdp, hd d (List.mem_of_getElem? hdp), ?_⟩
    have h1 := str_get h rfl
    rw [hTl] at h1
    simp only [txU, Bool.false_eq_true, if_false, List.nil_append, List.getElem?_map] at h1
    rw [List.getElem?_reverse (by omega), hD, show n + 1 - 1 - (n - p) = p by omega, hdp] at h1
    exact (Option.some.inj h1).symm
  have hs0 : 0 < s.size := by rw [← bytes_len, hs]; simp [txU]
  obtain ⟨m, hm⟩ : ∃ b, s[0]'hs0 = b := ⟨_, rfl⟩
  have hm45 : m = 45 := by
    have h1 := str_get hs0 hm
    rw [hs] at h1
    simp [txU] at h1
    exact h1.symm
  subst hm45
  obtain ⟨b2, hb2⟩ : ∃ b, w.heap.size = b := ⟨_, rfl⟩
  obtain ⟨W1, hW1⟩ : ∃ W1, w.alloc (.cells #[.slice none 0 0, .bool false] 171) = W1 := ⟨_, rfl⟩
  have hX1 : Ex w W1 := by rw [← hW1]; exact (Keeps.refl _ w).alloc _
  have hB1 : Blk W1 b2 #[.slice none 0 0, .bool false] 171 := by rw [← hW1, ← hb2]; exact Blk.new w _ _
  have hs1 : W1.heap.size = b2 + 1 := by rw [← hW1, World.size_alloc, hb2]
  obtain ⟨W2, hW2⟩ : ∃ W2, W1.alloc (.cells #[.slice none 0 0, .bool false] 171) = W2 := ⟨_, rfl⟩
  have hX12 : Ex W1 W2 := by rw [← hW2]; exact (Keeps.refl _ W1).alloc _
  have HB2 : Hid (Blk W2 b2 #[.slice none 0 0, .bool false] 171) := Lib.hid (hX12.blk hB1 id)
  have HB3 : Hid (Blk W2 (b2 + 1) #[.slice none 0 0, .bool false] 171) := Lib.hid (by rw [← hW2, ← hs1]; exact Blk.new W1 _ _)
  obtain ⟨W3, hW3⟩ : ∃ W3, W2.setCell ⟨b2 + 1, 1, none⟩ (.bool true) = W3 := ⟨_, rfl⟩
  have q3 : W2.cell? ⟨b2 + 1, 1, none⟩ = some (.bool false) := (HB3.out.cell 1).trans rfl
  have f3 : W2.frozen? ⟨b2 + 1, 1, none⟩ = false := HB3.out.frozen _
  have HB2' : Hid (Blk W3 b2 #[.slice none 0 0, .bool false] 171) := Lib.hid (by rw [← hW3]; exact HB2.out.far (a := ⟨b2 + 1, 1, none⟩) (by show b2 ≠ b2 + 1; omega) _)
  have HB3' : Hid (Blk W3 (b2 + 1) #[.slice none 0 0, .bool true] 171) := Lib.hid (by rw [← hW3]; exact HB3.out.set 1 _)
  have HX2 : Hid (Ex w W3) := Lib.hid (by rw [← hW3]; exact (hX1.trans hX12).setCell (.inr (by rw [hb2]; exact Nat.le_succ _)) _)
  have HW3 := Lib.hid hW3
  have HD := Lib.hid hD; have Hdl := Lib.hid hdl; have Hch := Lib.hid hch; have Hss := Lib.hid hss
  have HW1 := Lib.hid hW1; have HW2 := Lib.hid hW2; have Hb2 := Lib.hid hb2; have Hs1 := Lib.hid hs1
  generalize hM : (fun (e : Ending) (w' : World) => (∃ a c, e = .returned (.agg #[.slice a (n + 1) c, .bool true])) ∧ Ex w w') = M
  have HM := Lib.hid hM
  clear hW3 hs hTl hD hd hlast hdl hch hX1 hB1 hX12 hW1 hW2 hb2 hs1 hM
  have s0 : wrap64 ((T.size : Int) - 1) = (n : Int) := by rw [Hss.out]; unfold wrap64; omega
  clear hss
  go_enter Tryz.func127, Tryz.ntmps127
  go_upto_region 2 with fail
  rw [HW1.out]
  try rw [Hb2.out]
  rw [HW2.out]
  try rw [Hs1.out]
  go_upto_region 4 with fail
  rw [HW3.out]
  clear q3 f3
  go_wp2_with fail
  clear hT
  go_loopw [4] (fun s4 wr => ∃ (p : Nat) (v : Value), p ≤ n + 1 ∧ s4 = .int .i64 ((n : Int) - p) ∧ Hid (Blk wr b2 #[.slice none 0 0, .bool false] 171) ∧ Hid (Blk wr (b2 + 1) #[v, .bool true] 171) ∧ Hid (OwnI wr (b2 + 2) v (natI (D.take p))) ∧ Hid (Ex w wr)) (fun s4 wr => (intOf s4 + 1).toNat)
  case atStart => exact ⟨0, _, by omega, by go_num, HB2', HB3', Lib.hid (World.ownsRow_nil W3 _ _ 1), HX2⟩
  case round =>
    obtain ⟨p, v, hp, rfl, HBa, HBb, HO, HX⟩ := hrel
    clear s0
    obtain ⟨oa, oc, rfl⟩ := natI_form HO.out
    have hlt : (D.take p).length = p := by rw [List.length_take, HD.out]; omega
    rw [hlt] at HBb HO
    have e0 : wr.cell? ⟨b2 + 1, 0, none⟩ = some (.slice oa p oc) := (HBb.out.cell 0).trans rfl
    by_cases hpn : p = n + 1
    case pos =>
      subst hpn
      obtain ⟨oa, rfl⟩ : ∃ ad, oa = some ad := by
        rcases HO.out.form with ⟨h1, h2⟩ | ⟨g, cap, h1, -⟩
        · have := congrArg List.length h2; rw [natI_len, hlt] at this; simp at this
        · injection h1 with h1; exact ⟨_, h1⟩
      have hyl : (natI (D.take (n + 1)))[n]? = some (dl : Int) := by
        unfold natI; rw [List.getElem?_map, List.getElem?_take_of_lt (by omega), Hdl.out]; rfl
      have HCall := Lib.hid (trim_any (natI_rd HO.out) (by omega) hyl (by omega))
      have e1 : wr.cell? ⟨b2 + 1, 1, none⟩ = some (.bool true) := (HBb.out.cell 1).trans rfl
      have f0 : wr.frozen? ⟨b2 + 1, 0, none⟩ = false := HBb.out.frozen _
      obtain ⟨W7, hW7⟩ : ∃ W7, wr.setCell ⟨b2 + 1, 0, none⟩ (.slice (some oa) (n + 1) oc) = W7 := ⟨_, rfl⟩
      have hB7 : Blk W7 (b2 + 1) #[.slice (some oa) (n + 1) oc, .bool true] 171 := by rw [← hW7]; exact HBb.out.set 0 _
      have hX7 : Ex w W7 := by rw [← hW7]; exact HX.out.setCell (.inr (by rw [Hb2.out]; exact Nat.le_succ _)) _
      have hBa7 : Blk W7 b2 #[.slice none 0 0, .bool false] 171 := by rw [← hW7]; exact HBa.out.far (a := ⟨b2 + 1, 0, none⟩) (by show b2 ≠ b2 + 1; omega) _
      have g0 : W7.cell? ⟨b2 + 1, 0, none⟩ = some (.slice (some oa) (n + 1) oc) := (hB7.cell 0).trans rfl
      have g1 : W7.cell? ⟨b2 + 1, 1, none⟩ = some (.bool true) := (hB7.cell 1).trans rfl
      have g2 : W7.cell? ⟨b2, 0, none⟩ = some (.slice none 0 0) := (hBa7.cell 0).trans rfl
      have g3 : W7.cell? ⟨b2, 1, none⟩ = some (.bool false) := (hBa7.cell 1).trans rfl
      have f2 : W7.frozen? ⟨b2, 0, none⟩ = false := hBa7.frozen _
      have f3 : W7.frozen? ⟨b2, 1, none⟩ = false := hBa7.frozen _
      have HW7 := Lib.hid hW7; have HX7 := Lib.hid hX7; have HB7 := Lib.hid hB7; have HBa7 := Lib.hid hBa7
      clear hlt hyl hW7 hX7 hB7 hBa7
      go_upto_region 10 with fail
      refine HCall.out.mono ?_
      rintro e w2 ⟨rfl, rfl⟩
      go_upto_region 10 with fail
      try rw [HW7.out]
      go_wp2_with fail
      have hBr : Blk ((W7.setCell ⟨b2, 0, none⟩ (.slice (some oa) (n + 1) oc)).setCell ⟨b2, 1, none⟩ (.bool true)) b2 #[.slice (some oa) (n + 1) oc, .bool true] 171 := (HBa7.out.set 0 _).set 1 _
      refine bodyPost_ret (results_cell_row rfl _ _ b2 171 _ (0, 0) _ rfl hBr Tryz.underlying171 rfl (by kernel_rfl)) rfl ?_
      rw [← HM.out]
      refine ⟨⟨_, _, rfl⟩, ?_⟩
      exact (HX7.out.setCell (.inr (by rw [Hb2.out]; exact Nat.le_refl _)) _).setCell (.inr (by rw [Hb2.out]; exact Nat.le_refl _)) _
    case neg =>
      have hpn2 : p ≤ n := by omega
      have hix : n - p < T.size := by rw [Hss.out]; omega
      obtain ⟨d, hdp, hd10, hsd⟩ := Hch.out p hpn2 hix
      have i0 : ((n : Int) - p).toNat = n - p := by omega
      have i1 : (0 : Int) ≤ (n : Int) - p := by omega
      have i2 : (n : Int) - p < T.size := by omega
      have i3 : IntKind.u8.wrap ((((dgb d).toNat : Nat) : Int) - 48) = (d : Int) := by rw [dgb_nat hd10]; simp [IntKind.wrap, IntKind.signed, IntKind.bits]; omega
      have Hdp := Lib.hid hdp
      clear hdp
      obtain ⟨W3, hW3⟩ : ∃ W3, wr.drew = W3 := ⟨_, rfl⟩
      have hX3 : Ex wr W3 := by rw [← hW3]; exact (Keeps.refl _ _).drew
      obtain ⟨W4, hW4⟩ : ∃ W4, W3.alloc (.cells #[.int .i64 (d : Int)] 3) = W4 := ⟨_, rfl⟩
      obtain ⟨b4, hb4⟩ : ∃ b, W3.heap.size = b := ⟨_, rfl⟩
      have hX4 : Ex W3 W4 := by rw [← hW4]; exact (Keeps.refl _ _).alloc _
      have hz4 : W4.cell? ⟨b4, 0, none⟩ = some (.int .i64 (d : Int)) := by rw [← hW4, ← hb4]; exact ((Blk.new W3 _ _).cell 0).trans rfl
      have hX34 := hX3.trans hX4
      have hB4 := hX34.blk HBb.out id
      have hBa4 := hX34.blk HBa.out id
      have ho4 := HO.out.kept hX34 fun _ _ => id
      obtain ⟨v5, W5, q5, ho5, hx5⟩ := append_natI ho4 169 ⟨b4, 0, none⟩ d hz4 (by rw [hlt]; omega) (by have := hB4.lt; omega)
      rw [← take_succ_of Hdp.out] at ho5
      have hB5 := own_blkN ho4 hx5 hB4 (by omega)
      have hBa5 := own_blkN ho4 hx5 hBa4 (by omega)
      obtain ⟨W6, hW6⟩ : ∃ W6, W5.setCell ⟨b2 + 1, 0, none⟩ v5 = W6 := ⟨_, rfl⟩
      have HBb6 : Hid (Blk W6 (b2 + 1) #[v5, .bool true] 171) := Lib.hid (by rw [← hW6]; exact hB5.set 0 _)
      have HBa6 : Hid (Blk W6 b2 #[.slice none 0 0, .bool false] 171) := Lib.hid (by rw [← hW6]; exact hBa5.far (a := ⟨b2 + 1, 0, none⟩) (by show b2 ≠ b2 + 1; omega) _)
      have HO6 : Hid (OwnI W6 (b2 + 2) v5 (natI (D.take (p + 1)))) := Lib.hid (by rw [← hW6]; exact ho5.set_below (by omega) _)
      have HX6 : Hid (Ex w W6) := Lib.hid (by rw [← hW6]; exact ((HX.out.trans hX34).ex ho4 (by rw [Hb2.out]; omega) hx5).setCell (.inr (by rw [Hb2.out]; exact Nat.le_succ _)) _)
      have HS : Hid (W3.cell? ⟨b2 + 1, 0, none⟩ = some (.slice oa p oc)) := Lib.hid (((hX3.blk HBb.out id).cell 0).trans rfl)
      have HS4 : Hid (W4.cell? ⟨b2 + 1, 0, none⟩ = some (.slice oa p oc)) := Lib.hid ((hB4.cell 0).trans rfl)
      have f5 : W5.frozen? ⟨b2 + 1, 0, none⟩ = false := hB5.frozen _
      have c5 : W5.cell? ⟨b2 + 1, 0, none⟩ = some (.slice oa p oc) := (hB5.cell 0).trans rfl
      obtain ⟨oa5, oc5, hv5⟩ := natI_form ho5
      have hl5 : (D.take (p + 1)).length = p + 1 := by rw [List.length_take, HD.out]; omega
      rw [hl5] at hv5
      subst hv5
      have HW4 := Lib.hid hW4; have Hb4 := Lib.hid hb4; have HW6 := Lib.hid hW6
      have s9 : wrap64 ((n : Int) - p - 1) = (n : Int) - ((p + 1 : Nat) : Int) := by unfold wrap64; omega
      clear hX3 hX4 hz4 hX34 hB4 hBa4 ho4 ho5 hx5 hB5 hBa5 hW4 hb4 hW6 hl5 hlt
      go_upto_region 8 with fail
      refine region_U_plain (n := 9) (fun V => V.cell? ⟨b2 + 1, 0, none⟩ = some (.slice oa p oc)) 8 (by kernel_rfl) ?_
      rw [hW3]
      clear hW3 e0
      refine anyU_quiet (a2 := ?au2_0) 0 rfl rfl rfl (by kernel_rfl) (by kernel_rfl) (by kernel_rfl) (by kernel_rfl) (by kernel_rfl) (by kernel_rfl) (fun _ _ _ _ h => h) HS.out ?hu2_0 ?ku2_0
      case hu2_0 => intro W hW K hK; obtain q0 := hW; go_simp; exact hK
      refine anyU_quiet (a2 := ?au2_1) 1 rfl rfl rfl (by kernel_rfl) (by kernel_rfl) (by kernel_rfl) (by kernel_rfl) (by kernel_rfl) (by kernel_rfl) (fun _ _ _ _ h => h) HS.out ?hu2_1 ?ku2_1
      case hu2_1 => intro W hW K hK; obtain q0 := hW; go_simp; exact hK
      refine anyU_quiet (a2 := ?au2_2) 2 rfl rfl rfl (by kernel_rfl) (by kernel_rfl) (by kernel_rfl) (by kernel_rfl) (by kernel_rfl) (by kernel_rfl) (fun _ _ _ _ h => h) HS.out ?hu2_2 ?ku2_2
      case hu2_2 => intro W hW K hK; obtain q0 := hW; go_simp; exact hK
      refine anyU_quiet (a2 := ?au2_3) 3 rfl rfl rfl (by kernel_rfl) (by kernel_rfl) (by kernel_rfl) (by kernel_rfl) (by kernel_rfl) (by kernel_rfl) (fun _ _ _ _ h => h) HS.out ?hu2_3 ?ku2_3
      case hu2_3 => intro W hW K hK; obtain q0 := hW; go_simp; exact hK
      refine anyU_quiet (a2 := ?au2_4) 4 rfl rfl rfl (by kernel_rfl) (by kernel_rfl) (by kernel_rfl) (by kernel_rfl) (by kernel_rfl) (by kernel_rfl) (fun _ _ _ _ h => h) HS.out ?hu2_4 ?ku2_4
      case hu2_4 => intro W hW K hK; obtain q0 := hW; go_simp; exact hK
      refine anyU_quiet (a2 := ?au2_5) 5 rfl rfl rfl (by kernel_rfl) (by kernel_rfl) (by kernel_rfl) (by kernel_rfl) (by kernel_rfl) (by kernel_rfl) (fun _ _ _ _ h => h) HS.out ?hu2_5 ?ku2_5
      case hu2_5 => intro W hW K hK; obtain q0 := hW; go_simp; exact hK
      refine anyU_quiet (a2 := ?au2_6) 6 rfl rfl rfl (by kernel_rfl) (by kernel_rfl) (by kernel_rfl) (by kernel_rfl) (by kernel_rfl) (by kernel_rfl) (fun _ _ _ _ h => h) HS.out ?hu2_6 ?ku2_6
      case hu2_6 => intro W hW K hK; obtain q0 := hW; go_simp; exact hK
      refine anyU_only 7 rfl (by kernel_rfl) ?_
      gi_wp2
      rw [HW4.out]
      try rw [Hb4.out]
      refine And.intro (.inr HS4.out) ?_
      refine anyU_only 8 rfl (by kernel_rfl) ?_
      refine wpListIn_append_run rfl _ _ 169 rfl _ q5 ?_
      gi_wp2
      refine And.intro (.inl (by kernel_rfl)) ?_
      refine anyU_only 9 rfl (by kernel_rfl) ?_
      gi_wp2
      refine And.intro (.inl (by kernel_rfl)) ?_
      refine anyU_only 10 rfl (by kernel_rfl) ?_
      gi_wp2
      rw [HW6.out]
      refine And.intro (.inl (by kernel_rfl)) ?_
      refine anyU_done (by kernel_rfl) ?_ _
      clear q5 f5 c5 i0 i1 i2 i3
      go_wp2_with fail
      go_roundw
      case rel => exact ⟨p + 1, _, by omega, by go_num, HBa6, HBb6, HO6, HX6⟩
      case measure => first | (simp [intOf]; done) | (simp [intOf]; omega)
end Go.Proofs.YtlaepkmnbbgbcaaGreatDoor
