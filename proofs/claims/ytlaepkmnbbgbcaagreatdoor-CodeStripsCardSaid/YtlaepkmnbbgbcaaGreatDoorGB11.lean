/- The iterator over the lines of a code (without virtual patterns, labels and reals). -/
import Derived.Test.YtlaepkmnbbgbcaaGreatDoorGB10
import Derived.RangeFuncNested
import Derived.RangeFuncBound
import Derived.RangeFuncCalls
import Derived.RangeFuncLeaves
import Derived.Shelf.Abstract
import Derived.Shelf.RegionOpen
import Derived.OwnWalkIn
import Derived.TacticsInMore
import Derived.LoopNIn
import Derived.LoopIn
import Derived.BigRegionIn
import Derived.Laws.EntriesVeiled
/- The iterator over the lines of a code (without virtual patterns, labels and reals). -/
namespace Go.Proofs.YtlaepkmnbbgbcaaGreatDoor
open Go.RowKit Go.Instr Go.Shelf
set_option linter.unusedVariables false
set_option linter.unusedSimpArgs false
attribute [local go_sem] Oper.semAt_some

/-- A code whose lines are those of linesL; its numbers are ints. -/
structure Simple (c : Co) : Prop where
  labels : c.labels = []
  reals : c.reals = []
  virts : ∀ d ∈ c.descs, d.virts = []
  nums : ∀ d ∈ c.descs, (∀ n ∈ [d.around, d.offset, d.cells, d.init, d.enter, d.do_, d.exit, d.stack, (d.chain.length : Int)], I64 n) ∧ (∀ n ∈ d.chain, I64 n) ∧ ∀ n ∈ d.up, I64 n
  ins : ∀ x ∈ c.instrs, I64 x.a ∧ I64 x.b ∧ opFind x.op ≠ none
theorem bytes_add (a b : List UInt8) : (⟨a.toArray⟩ ++ ⟨b.toArray⟩ : ByteArray) = ⟨(a ++ b).toArray⟩ := by
  apply ByteArray.ext
  rw [ByteArray.data_append]
  simp
theorem bytes_sz (a : List UInt8) : (⟨a.toArray⟩ : ByteArray).size = a.length := by simp [ByteArray.size]
theorem text_bytes (s : ByteArray) : (⟨#[84, 69, 88, 84, 32, 34]⟩ ++ s ++ ⟨#[34]⟩ : ByteArray) = ⟨(textLine s).toArray⟩ := by
  apply ByteArray.ext
  rw [ByteArray.data_append, ByteArray.data_append]
  unfold textLine
  apply Array.ext'
  simp
theorem nOps_le (a b : Ck) : nOps a b ≤ 2 := by
  unfold nOps
  split
  · split <;> omega
  · omega
theorem name_bytes (nm : ByteArray) (l : List UInt8) : (nm ++ ⟨l.toArray⟩ : ByteArray) = ⟨(nm.data.toList ++ l).toArray⟩ := by
  apply ByteArray.ext
  rw [ByteArray.data_append]
  apply Array.ext'
  simp
theorem opT_names : ∀ o ∈ opT, o.name.size ≤ 100 := by decide +kernel
/-- What the table gives, without asking whether it does. -/
theorem RD.look1 {w : World} {m : Nat} {T : List Op1} (h : RD w m T) (k : Int) :
    match T.find? (fun o => decide (o.key = k)) with
    | none => (Instr.lookup 111 (.map (some m)) (.int .i64 k) false).run Tryz.prog w = .ok (.agg #[.string ⟨#[]⟩, .nilFunc, .nilFunc]) w
    | some o => ∃ va vb, (Instr.lookup 111 (.map (some m)) (.int .i64 k) false).run Tryz.prog w = .ok (.agg #[.string o.name, va, vb]) w ∧ CkV w va o.a ∧ CkV w vb o.b := by
  obtain ⟨F, ⟨es, ck, e1, e2, e3⟩, hall⟩ := h
  have hr := run_lookup_int (P := Tryz.prog) Tryz.underlying111 Tryz.underlying3 zero_op e1 e2.key k
  have h3 := hall k
  rw [e3 k] at hr
  cases hf : T.find? (fun o => decide (o.key = k)) with
  | none =>
    rw [hf] at h3
    rw [h3] at hr
    exact hr
  | some o =>
    rw [hf] at h3
    obtain ⟨va, vb, e4, e5, e6⟩ := h3
    rw [e4] at hr
    exact ⟨va, vb, hr, e5, e6⟩
/-- Between two yields: the code is where it was. -/
structure Lin (w0 : World) (B0 bc : Nat) (da la ta ra ia : Option Addr) (dn ln tn rn ino dc lc tc rc ic : Nat) (V : World) : Prop where
  ex : Ex w0 V
  sz : B0 ≤ V.heap.size
  box : Blk V bc #[.slice da dn dc, .slice la ln lc, .slice ta tn tc, .slice ra rn rc, .slice ia ino ic] 28
theorem Lin.more {w0 : World} {B0 bc : Nat} {da la ta ra ia : Option Addr} {dn ln tn rn ino dc lc tc rc ic : Nat} {V V' : World} (h : Lin w0 B0 bc da la ta ra ia dn ln tn rn ino dc lc tc rc ic V) (hx : Ex V V') : Lin w0 B0 bc da la ta ra ia dn ln tn rn ino dc lc tc rc ic V' :=
  ⟨h.ex.trans hx, by have := hx.size; have := h.sz; omega, hx.blk h.box id⟩
theorem Lin.kept {w0 : World} {B0 bc : Nat} {da la ta ra ia : Option Addr} {dn ln tn rn ino dc lc tc rc ic : Nat} {V V' : World} (hb : w0.heap.size ≤ B0) (h : Lin w0 B0 bc da la ta ra ia dn ln tn rn ino dc lc tc rc ic V) (hk : KpL B0 V V') : Lin w0 B0 bc da la ta ra ia dn ln tn rn ino dc lc tc rc ic V' :=
  ⟨hk.ex h.ex hb h.sz, by have := hk.low.size; have := h.sz; omega, hk.blk h.box (by decide) (by decide)⟩
theorem Lin.cells {w0 : World} {B0 bc : Nat} {da la ta ra ia : Option Addr} {dn ln tn rn ino dc lc tc rc ic : Nat} {V : World} (h : Lin w0 B0 bc da la ta ra ia dn ln tn rn ino dc lc tc rc ic V) :
    V.cell? ⟨bc, 0, none⟩ = some (.slice da dn dc) ∧ V.cell? ⟨bc, 1, none⟩ = some (.slice la ln lc) ∧ V.cell? ⟨bc, 2, none⟩ = some (.slice ta tn tc) ∧ V.cell? ⟨bc, 3, none⟩ = some (.slice ra rn rc) ∧ V.cell? ⟨bc, 4, none⟩ = some (.slice ia ino ic) :=
  ⟨(h.box.cell 0).trans rfl, (h.box.cell 1).trans rfl, (h.box.cell 2).trans rfl, (h.box.cell 3).trans rfl, (h.box.cell 4).trans rfl⟩
theorem ex_grown {w w' : World} (h : Ex w w') : w.grownBy w' none := ⟨h.os, h.tape, h.output, h.size, fun k hk _ => h.block k hk id⟩
theorem abides_ex {B : Nat} {J : Nat → World → Prop} (hJ : AbidesFrom B J) {k : Nat} {w w' : World} (h : J k w) (hx : Ex w w') : J k w' := hJ k w w' none h (ex_grown hx) (fun r e => by cases e)

set_option maxRecDepth 100000 in
set_option maxHeartbeats 8000000 in
theorem lines_in (n : Nat) (hn : 1 ≤ n) (l bc B0 : Nat) {c : Co} {xs : List DeV} {da la ta ra ia : Option Addr} {dc lc tc rc ic : Nat} (w0 : World) (h : RdCo w0 (.slice da xs.length dc) (.slice la c.labels.length lc) (.slice ta c.texts.length tc) (.slice ra c.reals.length rc) (.slice ia c.instrs.length ic) c xs)
    (hT : Tab w0) (hB0 : w0.heap.size ≤ B0) (hb : Big c) (hsm : Simple c) (J Jx : Nat → World → Prop)
    (hY : ∀ k y W1, J k W1 → (linesL c)[k]? = some y → YieldAt (WF none) (n - 1) Tryz.prog l #[.string ⟨y.toArray⟩] W1 fun e W' => (e = .returned (.bool true) ∧ J (k + 1) W' ∧ KpL B0 W1 W') ∨ (e = .returned (.bool false) ∧ Jx (k + 1) W' ∧ KpL B0 W1 W'))
    (W : World) (hL : Lin w0 B0 bc da la ta ra ia xs.length c.labels.length c.texts.length c.reals.length c.instrs.length dc lc tc rc ic W) (hJ : AbidesFrom W.heap.size J) (h0 : J 0 W) :
    CallsIn (WF none) n Tryz.prog 96 #[.func (.yield l) #[] #[], .pointer (some ⟨bc, 0, none⟩)] W fun e W' => (∃ v, e = .returned v) ∧ (J (linesL c).length W' ∨ ∃ k, k ≤ (linesL c).length ∧ Jx k W') := by
  have h6 : (WF none).fn 96 := trivial
  have hro : (WF none).round = none := rfl
  have hxl := h.len
  have hd1 : ∀ a, da = a → a = none → xs = [] := fun a e1 e2 => by
    obtain ⟨a', c', e, -, hz, -⟩ := h.ds
    injection e with e3 _ _
    exact hz (by rw [← e3, e1, e2])
  have ht1 : ∀ a, ta = a → a = none → c.texts = [] := fun a e1 e2 => by
    obtain ⟨a', c', e, -, hz, -⟩ := h.ts
    injection e with e3 _ _
    exact hz (by rw [← e3, e1, e2])
  have hi1 : ∀ a, ia = a → a = none → c.instrs = [] := fun a e1 e2 => by
    obtain ⟨a', c', e, -, hz, -⟩ := h.is
    injection e with e3 _ _
    exact hz (by rw [← e3, e1, e2])
  have hln : c.labels.length = 0 := by rw [hsm.labels]; rfl
  have hrn : c.reals.length = 0 := by rw [hsm.reals]; rfl
  rw [hln, hrn] at hL
  have l1 : xs.length ≤ 1000000 := by have := hb.d; omega
  have l3 := hb.t; have l5 := hb.i
  have H := Lib.hid h; have HT := Lib.hid hT; have HB0 := Lib.hid hB0; have HSm := Lib.hid hsm; have HY := Lib.hid hY; have HN := Lib.hid hxl; have HD1 := Lib.hid hd1; have Hb := Lib.hid hb; have HLn := Lib.hid hln; have HRn := Lib.hid hrn
  have HJ := Lib.hid hJ; have HT1 := Lib.hid ht1; have HI1 := Lib.hid hi1
  clear ht1 hi1 h hT hB0 hsm hxl hd1 hb hln hrn hJ
  obtain ⟨x0, x1, x2, x3, x4⟩ := hL.cells
  have HL := Lib.hid hL
  clear hL hY
  generalize hM : (fun (e : Ending) (W' : World) => (∃ v, e = .returned v) ∧ (J (linesL c).length W' ∨ ∃ k, k ≤ (linesL c).length ∧ Jx k W')) = M
  have HM := Lib.hid hM
  clear hM
  refine callsIn_of_wp Tryz.func96 rfl h6 ?_ hro
  simp only [Tryz.ntmps96, List.size_toArray, List.length_cons, List.length_nil, Nat.reduceAdd, Nat.reduceSub, Array.replicate_succ, Array.replicate_zero, List.push_toArray, List.append_toArray, List.nil_append, List.cons_append]
  gi_wp2
  clear x0 x1 x2 x3 x4
  have HJ0 : Hid (J 0 W) := Lib.hid h0
  clear h0
  gi_loopw [22] (fun s wr => ∃ k : Nat, k ≤ xs.length ∧ s = .int .i64 k ∧ Hid (Lin w0 B0 bc da la ta ra ia xs.length 0 c.texts.length 0 c.instrs.length dc lc tc rc ic wr) ∧ Hid (J k wr)) (fun s wr => xs.length - (intOf s).toNat)
  case atStart => exact ⟨0, Nat.zero_le _, rfl, HL, HJ0⟩
  case round =>
    obtain ⟨k, hk, rfl, HLr, HJr⟩ := hrel
    obtain ⟨x0, x1, x2, x3, x4⟩ := HLr.out.cells
    by_cases hlt : k < xs.length
    case pos =>
      obtain ⟨ad, rfl⟩ : ∃ ad, da = some ad := by
        cases hda : da with
        | none => have := HD1.out _ hda rfl; rw [this] at hlt; simp at hlt
        | some ad => exact ⟨ad, rfl⟩
      obtain ⟨x, hx⟩ : ∃ x, xs[k]? = some x := ⟨_, List.getElem?_eq_getElem hlt⟩
      have hxd : c.descs[k]? = some x.d := by rw [← H.out.eq, List.getElem?_map, hx]; rfl
      have hD := H.out.de x (List.mem_of_getElem? hx)
      have hnum := HSm.out.nums x.d (List.mem_of_getElem? hxd)
      have hvir := HSm.out.virts x.d (List.mem_of_getElem? hxd)
      have hbx := Hb.out.e x.d (List.mem_of_getElem? hxd)
      have hline : (linesL c)[k]? = some (descLine x.d) := by
        have hk2 : k < (c.descs.map descLine).length := by rw [List.length_map, ← HN.out]; exact hlt
        unfold linesL
        rw [List.append_assoc, List.getElem?_append_left hk2, List.getElem?_map, hxd]; rfl
      obtain ⟨A, hA⟩ : ∃ A, ad.add (k * 11) = A := ⟨_, rfl⟩
      obtain ⟨e0, e1, e2, e3, e4, e5, e6, e7, e8, e9, e10⟩ := (H.out.ds.ext HLr.out.ex).deCells hx hA
      obtain ⟨d, cv, uv, vv⟩ := x
      obtain ⟨ca, cc, ec, -⟩ := id hD.chain
      obtain ⟨ua, uc, eu, -⟩ := id hD.up
      obtain ⟨va, vc, ev, -⟩ := id hD.virts
      simp only at ec eu ev hxd hnum hvir hline hbx e0 e1 e2 e3 e4 e5 e6 e7 e8 e9 e10
      subst ec; subst eu; subst ev
      have hRc : RdL encI w0 (.slice ca d.chain.length cc) d.chain := hD.chain
      have hRu : RdL encI w0 (.slice ua d.up.length uc) d.up := hD.up
      obtain ⟨W4, hW4⟩ : ∃ W4, wr.alloc (.cells (encD ⟨d, .slice ca d.chain.length cc, .slice ua d.up.length uc, .slice va d.virts.length vc⟩).toArray 50) = W4 := ⟨_, rfl⟩
      obtain ⟨b4, hb4⟩ : ∃ b4, wr.heap.size = b4 := ⟨_, rfl⟩
      have hX4 : Ex wr W4 := by rw [← hW4]; exact (Keeps.refl _ wr).alloc _
      have hB4 : Blk W4 b4 (encD ⟨d, .slice ca d.chain.length cc, .slice ua d.up.length uc, .slice va d.virts.length vc⟩).toArray 50 := by rw [← hW4, ← hb4]; exact Blk.new wr _ _
      dsimp only [encD] at hW4 hB4
      have HL4 := Lib.hid (HLr.out.more hX4)
      have HJ4 : Hid (J k W4) := Lib.hid (abides_ex HJ.out HJr.out hX4)
      have hbc : d.chain.length ≤ 1000000 := hbx.1
      have hS0 : ∀ V, Blk V b4 #[.int .i64 d.around, .slice ca d.chain.length cc, .slice ua d.up.length uc, .int .i64 d.offset, .int .i64 d.cells, .slice va d.virts.length vc, .int .i64 d.init, .int .i64 d.enter, .int .i64 d.do_, .int .i64 d.exit, .int .i64 d.stack] 50 → Hid (V.cell? ⟨b4, 0, none⟩ = some (.int .i64 d.around) ∧ V.cell? ⟨b4, 1, none⟩ = some (.slice ca d.chain.length cc) ∧ V.cell? ⟨b4, 2, none⟩ = some (.slice ua d.up.length uc) ∧ V.cell? ⟨b4, 3, none⟩ = some (.int .i64 d.offset) ∧ V.cell? ⟨b4, 4, none⟩ = some (.int .i64 d.cells) ∧
          V.cell? ⟨b4, 6, none⟩ = some (.int .i64 d.init) ∧ V.cell? ⟨b4, 7, none⟩ = some (.int .i64 d.enter) ∧ V.cell? ⟨b4, 8, none⟩ = some (.int .i64 d.do_) ∧ V.cell? ⟨b4, 9, none⟩ = some (.int .i64 d.exit) ∧ V.cell? ⟨b4, 10, none⟩ = some (.int .i64 d.stack)) := fun V hV =>
        ⟨(hV.cell 0).trans rfl, (hV.cell 1).trans rfl, (hV.cell 2).trans rfl, (hV.cell 3).trans rfl, (hV.cell 4).trans rfl, (hV.cell 6).trans rfl, (hV.cell 7).trans rfl, (hV.cell 8).trans rfl, (hV.cell 9).trans rfl, (hV.cell 10).trans rfl⟩
      have HB4 := Lib.hid hB4; have HS0 := Lib.hid hS0; have HW4 := Lib.hid hW4; have Hb4 := Lib.hid hb4; have HNum := Lib.hid hnum; have HVir := Lib.hid hvir; have HLine := Lib.hid hline; have HRc := Lib.hid hRc; have HRu := Lib.hid hRu; have HBx := Lib.hid hbx
      clear hX4 hB4 hS0 hW4 hb4 hxd hx hD hnum hvir hline hRc hRu hbx
      gi_wp2
      rw [HW4.out]
      try rw [Hb4.out]
      clear e0 e1 e2 e3 e4 e5 e6 e7 e8 e9 e10 x0 x1 x2 x3 x4
      refine region_S (fun V => V.cell? ⟨b4, 0, none⟩ = some (.int .i64 d.around) ∧ V.cell? ⟨b4, 1, none⟩ = some (.slice ca d.chain.length cc) ∧ V.cell? ⟨b4, 2, none⟩ = some (.slice ua d.up.length uc) ∧ V.cell? ⟨b4, 3, none⟩ = some (.int .i64 d.offset) ∧ V.cell? ⟨b4, 4, none⟩ = some (.int .i64 d.cells) ∧
          V.cell? ⟨b4, 6, none⟩ = some (.int .i64 d.init) ∧ V.cell? ⟨b4, 7, none⟩ = some (.int .i64 d.enter) ∧ V.cell? ⟨b4, 8, none⟩ = some (.int .i64 d.do_) ∧ V.cell? ⟨b4, 9, none⟩ = some (.int .i64 d.exit) ∧ V.cell? ⟨b4, 10, none⟩ = some (.int .i64 d.stack)) 100 (by kernel_rfl) ?_
      have HS := HS0.out W4.drew HB4.out.drew
      refine anyS_quiet (a2 := ?a0) 0 rfl rfl rfl (by kernel_rfl) (by kernel_rfl) (by kernel_rfl) (by kernel_rfl) (by kernel_rfl) (by kernel_rfl) (fun _ _ _ _ h => h) HS.out ?h0 ?k0
      case h0 => intro W hW K hK; obtain ⟨c0, c1, c2, c3, c4, c6, c7, c8, c9, c10⟩ := hW; go_simp; exact hK
      refine anyS_quiet (a2 := ?a1) 1 rfl rfl rfl (by kernel_rfl) (by kernel_rfl) (by kernel_rfl) (by kernel_rfl) (by kernel_rfl) (by kernel_rfl) (fun _ _ _ _ h => h) HS.out ?h1 ?k1
      case h1 => intro W hW K hK; obtain ⟨c0, c1, c2, c3, c4, c6, c7, c8, c9, c10⟩ := hW; go_simp; exact hK
      refine anyS_quiet (a2 := ?a2) 2 rfl rfl rfl (by kernel_rfl) (by kernel_rfl) (by kernel_rfl) (by kernel_rfl) (by kernel_rfl) (by kernel_rfl) (fun _ _ _ _ h => h) HS.out ?h2 ?k2
      case h2 => intro W hW K hK; obtain ⟨c0, c1, c2, c3, c4, c6, c7, c8, c9, c10⟩ := hW; go_simp; exact hK
      refine anyS_quiet (a2 := ?a3) 3 rfl rfl rfl (by kernel_rfl) (by kernel_rfl) (by kernel_rfl) (by kernel_rfl) (by kernel_rfl) (by kernel_rfl) (fun _ _ _ _ h => h) HS.out ?h3 ?k3
      case h3 => intro W hW K hK; obtain ⟨c0, c1, c2, c3, c4, c6, c7, c8, c9, c10⟩ := hW; go_simp; exact hK
      refine anyS_quiet (a2 := ?a4) 4 rfl rfl rfl (by kernel_rfl) (by kernel_rfl) (by kernel_rfl) (by kernel_rfl) (by kernel_rfl) (by kernel_rfl) (fun _ _ _ _ h => h) HS.out ?h4 ?k4
      case h4 => intro W hW K hK; obtain ⟨c0, c1, c2, c3, c4, c6, c7, c8, c9, c10⟩ := hW; go_simp; exact hK
      refine anyS_quiet (a2 := ?a5) 5 rfl rfl rfl (by kernel_rfl) (by kernel_rfl) (by kernel_rfl) (by kernel_rfl) (by kernel_rfl) (by kernel_rfl) (fun _ _ _ _ h => h) HS.out ?h5 ?k5
      case h5 => intro W hW K hK; obtain ⟨c0, c1, c2, c3, c4, c6, c7, c8, c9, c10⟩ := hW; go_simp; exact hK
      refine anyS_quiet (a2 := ?a6) 6 rfl rfl rfl (by kernel_rfl) (by kernel_rfl) (by kernel_rfl) (by kernel_rfl) (by kernel_rfl) (by kernel_rfl) (fun _ _ _ _ h => h) HS.out ?h6 ?k6
      case h6 => intro W hW K hK; obtain ⟨c0, c1, c2, c3, c4, c6, c7, c8, c9, c10⟩ := hW; go_simp; exact hK
      refine anyS_quiet (a2 := ?a7) 7 rfl rfl rfl (by kernel_rfl) (by kernel_rfl) (by kernel_rfl) (by kernel_rfl) (by kernel_rfl) (by kernel_rfl) (fun _ _ _ _ h => h) HS.out ?h7 ?k7
      case h7 => intro W hW K hK; obtain ⟨c0, c1, c2, c3, c4, c6, c7, c8, c9, c10⟩ := hW; go_simp; exact hK
      refine anyS_quiet (a2 := ?a8) 8 rfl rfl rfl (by kernel_rfl) (by kernel_rfl) (by kernel_rfl) (by kernel_rfl) (by kernel_rfl) (by kernel_rfl) (fun _ _ _ _ h => h) HS.out ?h8 ?k8
      case h8 => intro W hW K hK; obtain ⟨c0, c1, c2, c3, c4, c6, c7, c8, c9, c10⟩ := hW; go_simp; exact hK
      refine anyS_quiet (a2 := ?a9) 9 rfl rfl rfl (by kernel_rfl) (by kernel_rfl) (by kernel_rfl) (by kernel_rfl) (by kernel_rfl) (by kernel_rfl) (fun _ _ _ _ h => h) HS.out ?h9 ?k9
      case h9 => intro W hW K hK; obtain ⟨c0, c1, c2, c3, c4, c6, c7, c8, c9, c10⟩ := hW; go_simp; exact hK
      refine anyS_quiet (a2 := ?a10) 10 rfl rfl rfl (by kernel_rfl) (by kernel_rfl) (by kernel_rfl) (by kernel_rfl) (by kernel_rfl) (by kernel_rfl) (fun _ _ _ _ h => h) HS.out ?h10 ?k10
      case h10 => intro W hW K hK; obtain ⟨c0, c1, c2, c3, c4, c6, c7, c8, c9, c10⟩ := hW; go_simp; exact hK
      refine anyS_quiet (a2 := ?a11) 11 rfl rfl rfl (by kernel_rfl) (by kernel_rfl) (by kernel_rfl) (by kernel_rfl) (by kernel_rfl) (by kernel_rfl) (fun _ _ _ _ h => h) HS.out ?h11 ?k11
      case h11 => intro W hW K hK; obtain ⟨c0, c1, c2, c3, c4, c6, c7, c8, c9, c10⟩ := hW; go_simp; exact hK
      refine anyS_quiet (a2 := ?a12) 12 rfl rfl rfl (by kernel_rfl) (by kernel_rfl) (by kernel_rfl) (by kernel_rfl) (by kernel_rfl) (by kernel_rfl) (fun _ _ _ _ h => h) HS.out ?h12 ?k12
      case h12 => intro W hW K hK; obtain ⟨c0, c1, c2, c3, c4, c6, c7, c8, c9, c10⟩ := hW; go_simp; exact hK
      refine anyS_quiet (a2 := ?a13) 13 rfl rfl rfl (by kernel_rfl) (by kernel_rfl) (by kernel_rfl) (by kernel_rfl) (by kernel_rfl) (by kernel_rfl) (fun _ _ _ _ h => h) HS.out ?h13 ?k13
      case h13 => intro W hW K hK; obtain ⟨c0, c1, c2, c3, c4, c6, c7, c8, c9, c10⟩ := hW; go_simp; exact hK
      refine anyS_quiet (a2 := ?a14) 14 rfl rfl rfl (by kernel_rfl) (by kernel_rfl) (by kernel_rfl) (by kernel_rfl) (by kernel_rfl) (by kernel_rfl) (fun _ _ _ _ h => h) HS.out ?h14 ?k14
      case h14 => intro W hW K hK; obtain ⟨c0, c1, c2, c3, c4, c6, c7, c8, c9, c10⟩ := hW; go_simp; exact hK
      refine anyS_quiet (a2 := ?a15) 15 rfl rfl rfl (by kernel_rfl) (by kernel_rfl) (by kernel_rfl) (by kernel_rfl) (by kernel_rfl) (by kernel_rfl) (fun _ _ _ _ h => h) HS.out ?h15 ?k15
      case h15 => intro W hW K hK; obtain ⟨c0, c1, c2, c3, c4, c6, c7, c8, c9, c10⟩ := hW; go_simp; exact hK
      refine anyS_quiet (a2 := ?a16) 16 rfl rfl rfl (by kernel_rfl) (by kernel_rfl) (by kernel_rfl) (by kernel_rfl) (by kernel_rfl) (by kernel_rfl) (fun _ _ _ _ h => h) HS.out ?h16 ?k16
      case h16 => intro W hW K hK; obtain ⟨c0, c1, c2, c3, c4, c6, c7, c8, c9, c10⟩ := hW; go_simp; exact hK
      refine anyS_quiet (a2 := ?a17) 17 rfl rfl rfl (by kernel_rfl) (by kernel_rfl) (by kernel_rfl) (by kernel_rfl) (by kernel_rfl) (by kernel_rfl) (fun _ _ _ _ h => h) HS.out ?h17 ?k17
      case h17 => intro W hW K hK; obtain ⟨c0, c1, c2, c3, c4, c6, c7, c8, c9, c10⟩ := hW; go_simp; exact hK
      refine anyS_quiet (a2 := ?a18) 18 rfl rfl rfl (by kernel_rfl) (by kernel_rfl) (by kernel_rfl) (by kernel_rfl) (by kernel_rfl) (by kernel_rfl) (fun _ _ _ _ h => h) HS.out ?h18 ?k18
      case h18 => intro W hW K hK; obtain ⟨c0, c1, c2, c3, c4, c6, c7, c8, c9, c10⟩ := hW; go_simp; exact hK
      refine anyS_quiet (a2 := ?a19) 19 rfl rfl rfl (by kernel_rfl) (by kernel_rfl) (by kernel_rfl) (by kernel_rfl) (by kernel_rfl) (by kernel_rfl) (fun _ _ _ _ h => h) HS.out ?h19 ?k19
      case h19 => intro W hW K hK; obtain ⟨c0, c1, c2, c3, c4, c6, c7, c8, c9, c10⟩ := hW; go_simp; exact hK
      refine anyS_quiet (a2 := ?ab_23) 23 rfl rfl rfl (by kernel_rfl) (by kernel_rfl) (by kernel_rfl) (by kernel_rfl) (by kernel_rfl) (by kernel_rfl) (fun _ _ _ _ h => h) HS.out ?hb_23 ?kb_23
      case hb_23 => intro W hW K hK; obtain ⟨c0, c1, c2, c3, c4, c6, c7, c8, c9, c10⟩ := hW; go_simp; exact hK
      refine anyS_quiet (a2 := ?ab_24) 24 rfl rfl rfl (by kernel_rfl) (by kernel_rfl) (by kernel_rfl) (by kernel_rfl) (by kernel_rfl) (by kernel_rfl) (fun _ _ _ _ h => h) HS.out ?hb_24 ?kb_24
      case hb_24 => intro W hW K hK; obtain ⟨c0, c1, c2, c3, c4, c6, c7, c8, c9, c10⟩ := hW; go_simp; exact hK
      refine anyS_quiet (a2 := ?ac_27) 27 rfl rfl rfl (by kernel_rfl) (by kernel_rfl) (by kernel_rfl) (by kernel_rfl) (by kernel_rfl) (by kernel_rfl) (fun _ _ _ _ h => h) HS.out ?hc_27 ?kc_27
      case hc_27 => intro W hW K hK; obtain ⟨c0, c1, c2, c3, c4, c6, c7, c8, c9, c10⟩ := hW; go_simp; exact hK
      refine anyS_quiet (a2 := ?ac_28) 28 rfl rfl rfl (by kernel_rfl) (by kernel_rfl) (by kernel_rfl) (by kernel_rfl) (by kernel_rfl) (by kernel_rfl) (fun _ _ _ _ h => h) HS.out ?hc_28 ?kc_28
      case hc_28 => intro W hW K hK; obtain ⟨c0, c1, c2, c3, c4, c6, c7, c8, c9, c10⟩ := hW; go_simp; exact hK
      refine anyS_only 20 rfl (by kernel_rfl) ?_
      gi_wp2
      refine And.intro (.inr (HS0.out _ (HB4.out.alloc _).drew).out) ?_
      obtain ⟨W5, hW5⟩ : ∃ W5, (W4.alloc (.cells #[.int .i64 d.around, .int .i64 d.offset, .int .i64 d.cells, .int .i64 d.init, .int .i64 d.enter, .int .i64 d.do_, .int .i64 d.exit, .int .i64 d.stack, .int .i64 (d.chain.length : Nat)] 3)).drew = W5 := ⟨_, rfl⟩
      obtain ⟨b5, hb5⟩ : ∃ b5, W4.heap.size = b5 := ⟨_, rfl⟩
      have hX5 : Ex W4 W5 := by rw [← hW5]; exact ((Keeps.refl _ W4).alloc _).drew
      have hB5 : Blk W5 b5 #[.int .i64 d.around, .int .i64 d.offset, .int .i64 d.cells, .int .i64 d.init, .int .i64 d.enter, .int .i64 d.do_, .int .i64 d.exit, .int .i64 d.stack, .int .i64 (d.chain.length : Nat)] 3 := by rw [← hW5, ← hb5]; exact (Blk.new W4 _ _).drew
      rw [hW5]
      try rw [hb5]
      have HL5 := Lib.hid (HL4.out.more hX5)
      have HJ5 : Hid (J k W5) := Lib.hid (abides_ex HJ.out HJ4.out hX5)
      have HB5 := Lib.hid (hX5.blk HB4.out id)
      have hn1 := numbers_any (HT.out.ext HL5.out.ex) (Blk.rdI (l := [d.around, d.offset, d.cells, d.init, d.enter, d.do_, d.exit, d.stack, (d.chain.length : Int)]) hB5) (by simp) HNum.out.1
      have hz1 := numsB_len HNum.out.1
      obtain ⟨s1, hs1⟩ : ∃ s1, numsB [d.around, d.offset, d.cells, d.init, d.enter, d.do_, d.exit, d.stack, (d.chain.length : Int)] = s1 := ⟨_, rfl⟩
      rw [hs1] at hn1 hz1
      have hz1' : s1.length ≤ 1000 := Nat.le_trans hz1 (by simp)
      have HN1 := Lib.hid hn1; have Hs1 := Lib.hid hs1; have HZ1 := Lib.hid hz1'
      clear hX5 hB5 hW5 hb5 hn1 hz1 hs1 hz1' HS
      refine anyS_only 21 rfl (by kernel_rfl) ?_
      gi_wp2_with fail
      refine (callsIn_WF HN1.out).mono ?_
      rintro e w6 ⟨rfl, hx6⟩
      have HL6 := Lib.hid (HL5.out.more hx6)
      have HJ6 : Hid (J k w6) := Lib.hid (abides_ex HJ.out HJ5.out hx6)
      have HB6 := Lib.hid (hx6.blk HB5.out id)
      have HS := HS0.out w6 HB6.out
      clear hx6
      gi_wp2
      refine And.intro (.inr HS.out) ?_
      have g1 : ¬ 9223372036854775807 < 4 + s1.length := by have := HZ1.out; omega
      refine anyS_quiet (a2 := ?ad_22) 22 rfl rfl rfl (by kernel_rfl) (by kernel_rfl) (by kernel_rfl) (by kernel_rfl) (by kernel_rfl) (by kernel_rfl) (fun _ _ _ _ h => h) HS.out ?hd_22 ?kd_22
      case hd_22 => intro W hW K hK; obtain ⟨c0, c1, c2, c3, c4, c6, c7, c8, c9, c10⟩ := hW; go_simp; exact hK
      have hn2 := numbers_any (HT.out.ext HL6.out.ex) (HRc.out.ext HL6.out.ex) (by have := HBx.out; omega) HNum.out.2.1
      have hz2 := numsB_len HNum.out.2.1
      obtain ⟨s2, hs2⟩ : ∃ s2, numsB d.chain = s2 := ⟨_, rfl⟩
      rw [hs2] at hn2 hz2
      have HN2 := Lib.hid hn2; have Hs2 := Lib.hid hs2; have HZ2 := Lib.hid hz2
      clear hn2 hz2 hs2 HS
      refine anyS_only 25 rfl (by kernel_rfl) ?_
      gi_wp2_with fail
      refine (callsIn_WF HN2.out).mono ?_
      rintro e w7 ⟨rfl, hx7⟩
      have HL7 := Lib.hid (HL6.out.more hx7)
      have HJ7 : Hid (J k w7) := Lib.hid (abides_ex HJ.out HJ6.out hx7)
      have HB7 := Lib.hid (hx7.blk HB6.out id)
      have HS := HS0.out w7 HB7.out
      clear hx7
      gi_wp2
      refine And.intro (.inr HS.out) ?_
      have g2 : ¬ 9223372036854775807 < 4 + s1.length + s2.length := by have := HZ1.out; have := HZ2.out; have := HBx.out; omega
      refine anyS_quiet (a2 := ?ae_26) 26 rfl rfl rfl (by kernel_rfl) (by kernel_rfl) (by kernel_rfl) (by kernel_rfl) (by kernel_rfl) (by kernel_rfl) (fun _ _ _ _ h => h) HS.out ?he_26 ?ke_26
      case he_26 => intro W hW K hK; obtain ⟨c0, c1, c2, c3, c4, c6, c7, c8, c9, c10⟩ := hW; go_simp; exact hK
      have hn3 := numbers_any (HT.out.ext HL7.out.ex) (HRu.out.ext HL7.out.ex) (by have := HBx.out; omega) HNum.out.2.2
      have hz3 := numsB_len HNum.out.2.2
      obtain ⟨s3, hs3⟩ : ∃ s3, numsB d.up = s3 := ⟨_, rfl⟩
      rw [hs3] at hn3 hz3
      have HN3 := Lib.hid hn3; have Hs3 := Lib.hid hs3; have HZ3 := Lib.hid hz3
      clear hn3 hz3 hs3 HS
      refine anyS_only 29 rfl (by kernel_rfl) ?_
      gi_wp2_with fail
      refine (callsIn_WF HN3.out).mono ?_
      rintro e w8 ⟨rfl, hx8⟩
      have HL8 := Lib.hid (HL7.out.more hx8)
      have HJ8 : Hid (J k w8) := Lib.hid (abides_ex HJ.out HJ7.out hx8)
      have HB8 := Lib.hid (hx8.blk HB7.out id)
      have HS := HS0.out w8 HB8.out
      clear hx8
      gi_wp2
      refine And.intro (.inr HS.out) ?_
      have g3 : ¬ 9223372036854775807 < 4 + s1.length + s2.length + s3.length := by have := HZ1.out; have := HZ2.out; have := HZ3.out; have := HBx.out; omega
      refine anyS_quiet (a2 := ?af_30) 30 rfl rfl rfl (by kernel_rfl) (by kernel_rfl) (by kernel_rfl) (by kernel_rfl) (by kernel_rfl) (by kernel_rfl) (fun _ _ _ _ h => h) HS.out ?hf_30 ?kf_30
      case hf_30 => intro W hW K hK; obtain ⟨c0, c1, c2, c3, c4, c6, c7, c8, c9, c10⟩ := hW; go_simp; exact hK
      refine anyS_only 31 rfl (by kernel_rfl) ?_
      have hbytes : descLine d = [68, 69, 83, 67] ++ s1 ++ s2 ++ s3 := by unfold descLine; rw [Hs1.out, Hs2.out, Hs3.out]
      obtain ⟨fn, tmps, assign, body, hyld, hR⟩ := HY.out _ _ w8 HJ8.out HLine.out
      rw [hbytes, ← bytes_add, ← bytes_add, ← bytes_add] at hyld
      have HR := Lib.hid hR
      clear hbytes hR
      gi_wp2
      refine HR.out.mono ?_
      rintro e w9 (⟨rfl, hJ9, hk9⟩ | ⟨rfl, hJx9, hk9⟩)
      · have HL9 := Lib.hid (HL8.out.kept HB0.out hk9)
        have HB9 := Lib.hid (hk9.blk HB8.out (by decide) (by decide))
        have HJ9 := Lib.hid hJ9
        have HS := HS0.out w9 HB9.out
        have hv0 : d.virts.length = 0 := by rw [HVir.out]; rfl
        have b5' : w9.cell? ⟨b4, 5, none⟩ = some (.slice va 0 vc) := by rw [← hv0]; exact (HB9.out.cell 5).trans rfl
        clear hk9 hJ9 hv0 g1 g2 g3
        gi_wp2
        refine And.intro (.inr HS.out) ?_
        refine anyS_quiet (a2 := ?ag_32) 32 rfl rfl rfl (by kernel_rfl) (by kernel_rfl) (by kernel_rfl) (by kernel_rfl) (by kernel_rfl) (by kernel_rfl) (fun _ _ _ _ h => h) HS.out ?hg_32 ?kg_32
        case hg_32 => intro W hW K hK; obtain ⟨c0, c1, c2, c3, c4, c6, c7, c8, c9, c10⟩ := hW; go_simp; exact hK
        refine anyS_done (by kernel_rfl) ?_ _
        gi_wp2
        gi_loopw [62] (fun i wv => i = .int .i64 0 ∧ Hid (Lin w0 B0 bc (some ad) la ta ra ia xs.length 0 c.texts.length 0 c.instrs.length dc lc tc rc ic wv) ∧ Hid (J (k + 1) wv)) (fun i wv => 0)
        case atStart => exact ⟨rfl, HL9, HJ9⟩
        case round =>
          obtain ⟨rfl, HLv, HJv⟩ := hrel
          gi_wp2
          go_roundw
          case rel => exact ⟨k + 1, by omega, by go_num, HLv, HJv⟩
          case measure => simp [intOf]; omega
      · have HB9 := Lib.hid (hk9.blk HB8.out (by decide) (by decide))
        have HJx9 := Lib.hid hJx9
        have HS := HS0.out w9 HB9.out
        have hkl : k + 1 ≤ (linesL c).length := by have := (List.getElem?_eq_some_iff.1 HLine.out).1; omega
        have HKL := Lib.hid hkl
        clear hk9 hJx9 hkl g1 g2 g3
        gi_wp2
        refine And.intro (.inr HS.out) ?_
        refine anyS_quiet (a2 := ?ah_32) 32 rfl rfl rfl (by kernel_rfl) (by kernel_rfl) (by kernel_rfl) (by kernel_rfl) (by kernel_rfl) (by kernel_rfl) (fun _ _ _ _ h => h) HS.out ?hh_32 ?kh_32
        case hh_32 => intro W hW K hK; obtain ⟨c0, c1, c2, c3, c4, c6, c7, c8, c9, c10⟩ := hW; go_simp; exact hK
        refine anyS_done (by kernel_rfl) ?_ _
        gi_wp2
        refine bodyPost_ret (results_none rfl _ _ _) rfl ?_
        rw [← HM.out]
        exact ⟨⟨_, rfl⟩, .inr ⟨k + 1, HKL.out, HJx9.out⟩⟩
    case neg =>
      have : k = xs.length := by omega
      subst this
      gi_wp2
      clear x0 x1 x2 x3 x4
      gi_loopw [85] (fun i wv => i = .int .i64 0 ∧ Hid (Lin w0 B0 bc da la ta ra ia xs.length 0 c.texts.length 0 c.instrs.length dc lc tc rc ic wv) ∧ Hid (J xs.length wv)) (fun i wv => 0)
      case atStart => exact ⟨rfl, HLr, HJr⟩
      case round =>
        obtain ⟨rfl, HLv, HJv⟩ := hrel
        obtain ⟨x0, x1, x2, x3, x4⟩ := HLv.out.cells
        gi_wp2
        clear x0 x1 x2 x3 x4
        gi_loopw [103] (fun s wr => ∃ k : Nat, k ≤ c.texts.length ∧ s = .int .i64 k ∧ Hid (Lin w0 B0 bc da la ta ra ia xs.length 0 c.texts.length 0 c.instrs.length dc lc tc rc ic wr) ∧ Hid (J (xs.length + k) wr)) (fun s wr => c.texts.length - (intOf s).toNat)
        case atStart => exact ⟨0, Nat.zero_le _, rfl, HLv, HJv⟩
        case round =>
          obtain ⟨k, hk, rfl, HLr, HJr⟩ := hrel
          obtain ⟨x0, x1, x2, x3, x4⟩ := HLr.out.cells
          by_cases hlt : k < c.texts.length
          case pos =>
            obtain ⟨tad, rfl⟩ : ∃ a, ta = some a := by
              cases hta : ta with
              | none => have := HT1.out _ hta rfl; rw [this] at hlt; simp at hlt
              | some a => exact ⟨a, rfl⟩
            have z := (H.out.ts.ext HLr.out.ex).str_at hlt
            have hgt : c.texts[k]? = some (c.texts.getD k ⟨#[]⟩) := by rw [List.getD_eq_getElem?_getD, List.getElem?_eq_getElem hlt]; rfl
            have hsz := Hb.out.s _ (List.mem_of_getElem? hgt)
            have hline : (linesL c)[xs.length + k]? = some (textLine (c.texts.getD k ⟨#[]⟩)) := by
              have h1 : (c.descs.map descLine).length = xs.length := by rw [List.length_map, HN.out]
              unfold linesL
              rw [List.getElem?_append_left (by rw [List.length_append, h1, List.length_map]; omega), List.getElem?_append_right (by omega), h1, Nat.add_sub_cancel_left, List.getElem?_map, hgt]; rfl
            generalize c.texts.getD k ⟨#[]⟩ = s at z hsz hline
            obtain ⟨fn, tmps, assign, body, hyld, hR⟩ := HY.out _ _ wr HJr.out hline
            rw [← text_bytes] at hyld
            have hkl : xs.length + k + 1 ≤ (linesL c).length := by have := (List.getElem?_eq_some_iff.1 hline).1; omega
            have g1 : ¬ 9223372036854775807 < 6 + s.size := by omega
            have g2 : ¬ 9223372036854775807 < 6 + s.size + 1 := by omega
            have HR := Lib.hid hR; have HKL := Lib.hid hkl
            clear hR hgt hline hkl hsz
            gi_wp2
            refine HR.out.mono ?_
            rintro e w9 (⟨rfl, hJ9, hk9⟩ | ⟨rfl, hJx9, hk9⟩)
            · have HL9 := Lib.hid (HLr.out.kept HB0.out hk9)
              have HJ9 := Lib.hid hJ9
              clear hk9 hJ9 g1 g2
              gi_wp2
              go_roundw
              case rel => exact ⟨k + 1, by omega, by go_num, HL9, HJ9⟩
              case measure => simp [intOf]; omega
            · have HJx9 := Lib.hid hJx9
              clear hk9 hJx9 g1 g2
              gi_wp2
              refine bodyPost_ret (results_none rfl _ _ _) rfl ?_
              rw [← HM.out]
              exact ⟨⟨_, rfl⟩, .inr ⟨_, HKL.out, HJx9.out⟩⟩
          case neg =>
            have : k = c.texts.length := by omega
            subst this
            gi_wp2
            clear x0 x1 x2 x3 x4
            gi_loopw [117] (fun i wv => i = .int .i64 0 ∧ Hid (Lin w0 B0 bc da la ta ra ia xs.length 0 c.texts.length 0 c.instrs.length dc lc tc rc ic wv) ∧ Hid (J (xs.length + c.texts.length) wv)) (fun i wv => 0)
            case atStart => exact ⟨rfl, HLr, HJr⟩
            case round =>
              obtain ⟨rfl, HLv, HJv⟩ := hrel
              obtain ⟨x0, x1, x2, x3, x4⟩ := HLv.out.cells
              gi_wp2_with fail
              refine (callsIn_WF (operations_any wr)).mono ?_
              rintro e w2 ⟨m, rfl, hrd, -, hx2⟩
              have HL2 := Lib.hid (HLv.out.more hx2)
              have HJ2 : Hid (J (xs.length + c.texts.length) w2) := Lib.hid (abides_ex HJ.out HJv.out hx2)
              have HR2 := Lib.hid hrd
              clear hrd hx2 x0 x1 x2 x3 x4
              obtain ⟨x0, x1, x2, x3, x4⟩ := HL2.out.cells
              gi_wp2
              clear x0 x1 x2 x3 x4
              gi_loopw [136] (fun s wr => ∃ k : Nat, k ≤ c.instrs.length ∧ s = .int .i64 k ∧ Hid (Lin w0 B0 bc da la ta ra ia xs.length 0 c.texts.length 0 c.instrs.length dc lc tc rc ic wr) ∧ Hid (RD wr m opT) ∧ Hid (J (xs.length + c.texts.length + k) wr)) (fun s wr => c.instrs.length - (intOf s).toNat)
              case atStart => exact ⟨0, Nat.zero_le _, rfl, HL2, HR2, HJ2⟩
              case round =>
                obtain ⟨k, hk, rfl, HLr, HRr, HJr⟩ := hrel
                obtain ⟨x0, x1, x2, x3, x4⟩ := HLr.out.cells
                by_cases hlt : k < c.instrs.length
                case neg =>
                  have : k = c.instrs.length := by omega
                  subst this
                  gi_wp2
                  go_end0
                  rw [← HM.out]
                  refine ⟨⟨_, rfl⟩, .inl ?_⟩
                  have e : (linesL c).length = xs.length + c.texts.length + c.instrs.length := by
                    unfold linesL
                    rw [List.length_append, List.length_append, List.length_map, List.length_map, List.length_map, HN.out]
                  rw [e]; exact HJr.out
                obtain ⟨iad, rfl⟩ : ∃ a, ia = some a := by
                  cases hia : ia with
                  | none => have := HI1.out _ hia rfl; rw [this] at hlt; simp at hlt
                  | some a => exact ⟨a, rfl⟩
                obtain ⟨x, hx⟩ : ∃ x, c.instrs[k]? = some x := ⟨_, List.getElem?_eq_getElem hlt⟩
                have hins := HSm.out.ins x (List.mem_of_getElem? hx)
                obtain ⟨A, hA⟩ : ∃ A, iad.add (k * 3) = A := ⟨_, rfl⟩
                obtain ⟨z0, z1, z2⟩ := (H.out.is.ext HLr.out.ex).insCells hx hA
                obtain ⟨o, ho⟩ : ∃ o, opFind x.op = some o := by
                  cases e : opFind x.op with
                  | none => exact (hins.2.2 e).elim
                  | some o => exact ⟨o, rfl⟩
                have hmem : o ∈ opT := List.mem_of_find?_eq_some ho
                have hnz : o.name.size ≤ 100 := opT_names o hmem
                obtain ⟨q, hq⟩ : ∃ q, nOps o.a o.b = q := ⟨_, rfl⟩
                have hq2 : q ≤ 2 := by rw [← hq]; exact nOps_le _ _
                have hline : (linesL c)[xs.length + c.texts.length + k]? = some (o.name.data.toList ++ numsB ([x.a, x.b].take q)) := by
                  have h1 : (c.descs.map descLine ++ c.texts.map textLine).length = xs.length + c.texts.length := by rw [List.length_append, List.length_map, List.length_map, HN.out]
                  unfold linesL
                  rw [List.getElem?_append_right (by omega), h1, Nat.add_sub_cancel_left, List.getElem?_map, hx, ← hq]
                  simp only [Option.map_some]
                  unfold insLine
                  rw [ho]
                have hkl : xs.length + c.texts.length + k + 1 ≤ (linesL c).length := by have := (List.getElem?_eq_some_iff.1 hline).1; omega
                obtain ⟨W4, hW4⟩ : ∃ W4, wr.alloc (.cells #[.int .i64 x.op, .int .i64 x.a, .int .i64 x.b] 82) = W4 := ⟨_, rfl⟩
                obtain ⟨b4, hb4⟩ : ∃ b4, wr.heap.size = b4 := ⟨_, rfl⟩
                have hX4 : Ex wr W4 := by rw [← hW4]; exact (Keeps.refl _ wr).alloc _
                have hB4 : Blk W4 b4 #[.int .i64 x.op, .int .i64 x.a, .int .i64 x.b] 82 := by rw [← hW4, ← hb4]; exact Blk.new wr _ _
                have hlook := (HRr.out.ext hX4).look1 x.op
                have ho2 : opT.find? (fun o => decide (o.key = x.op)) = some o := ho
                rw [ho2] at hlook
                simp only at hlook
                obtain ⟨va, vb, hl, hva, hvb⟩ := hlook
                have y0 : W4.cell? ⟨b4, 0, none⟩ = some (.int .i64 x.op) := (hB4.cell 0).trans rfl
                obtain ⟨W5, hW5⟩ : ∃ W5, W4.alloc (.cells #[.string o.name, va, vb] 118) = W5 := ⟨_, rfl⟩
                obtain ⟨b5, hb5⟩ : ∃ b5, W4.heap.size = b5 := ⟨_, rfl⟩
                have hX45 : Ex W4 W5 := by rw [← hW5]; exact (Keeps.refl _ W4).alloc _
                have hB5 : Blk W5 b5 #[.string o.name, va, vb] 118 := by rw [← hW5, ← hb5]; exact Blk.new W4 _ _
                have hsa : ∀ (a : Addr) (md : Mode) (W : World), (Go.store a va md).run Tryz.prog W = stored Tryz.prog W a va md := by
                  intro a md W
                  rcases hva.form with rfl | ⟨f, lb, rfl⟩
                  · exact run_store_nilFunc _ _ _ _
                  · exact run_store_func _ _ _ _ _ _ _
                have hsb : ∀ (a : Addr) (md : Mode) (W : World), (Go.store a vb md).run Tryz.prog W = stored Tryz.prog W a vb md := by
                  intro a md W
                  rcases hvb.form with rfl | ⟨f, lb, rfl⟩
                  · exact run_store_nilFunc _ _ _ _
                  · exact run_store_func _ _ _ _ _ _ _
                have HL5 := Lib.hid (HLr.out.more (hX4.trans hX45))
                have HJ5 : Hid (J (xs.length + c.texts.length + k) W5) := Lib.hid (abides_ex HJ.out HJr.out (hX4.trans hX45))
                have HR5 := Lib.hid ((HRr.out.ext hX4).ext hX45)
                have HBa5 := Lib.hid (hX45.blk hB4 id); have HBb5 := Lib.hid hB5
                have HVa := Lib.hid (hva.ext hX45); have HVb := Lib.hid (hvb.ext hX45)
                have hS0 : ∀ V, Blk V b4 #[.int .i64 x.op, .int .i64 x.a, .int .i64 x.b] 82 → Blk V b5 #[.string o.name, va, vb] 118 → Hid (V.cell? ⟨b4, 0, none⟩ = some (.int .i64 x.op) ∧ V.cell? ⟨b4, 1, none⟩ = some (.int .i64 x.a) ∧ V.cell? ⟨b4, 2, none⟩ = some (.int .i64 x.b) ∧ V.cell? ⟨b5, 0, none⟩ = some (.string o.name) ∧ V.cell? ⟨b5, 1, none⟩ = some va ∧ V.cell? ⟨b5, 2, none⟩ = some vb) := fun V h1 h2 =>
                  ⟨(h1.cell 0).trans rfl, (h1.cell 1).trans rfl, (h1.cell 2).trans rfl, (h2.cell 0).trans rfl, (h2.cell 1).trans rfl, (h2.cell 2).trans rfl⟩
                have HS0 := Lib.hid hS0; have HIns := Lib.hid hins; have HNz := Lib.hid hnz; have HQ := Lib.hid hq2; have HLine := Lib.hid hline; have HKL := Lib.hid hkl; have HQe := Lib.hid hq
                clear hX4 hB4 hX45 hB5 hS0 hins hnz hq2 hline hkl hq hx ho ho2 hmem hva hvb
                gi_wp2
                clear hW4 hb4 hW5 hb5 x0 x1 x2 x3 x4 z0 z1 z2 y0 hl hsa hsb
                refine region_S (fun V => V.cell? ⟨b4, 0, none⟩ = some (.int .i64 x.op) ∧ V.cell? ⟨b4, 1, none⟩ = some (.int .i64 x.a) ∧ V.cell? ⟨b4, 2, none⟩ = some (.int .i64 x.b) ∧ V.cell? ⟨b5, 0, none⟩ = some (.string o.name) ∧ V.cell? ⟨b5, 1, none⟩ = some va ∧ V.cell? ⟨b5, 2, none⟩ = some vb) 100 (by kernel_rfl) ?_
                have HS := HS0.out W5.drew HBa5.out.drew HBb5.out.drew
                refine anyS_quiet (a2 := ?ai_0) 0 rfl rfl rfl (by kernel_rfl) (by kernel_rfl) (by kernel_rfl) (by kernel_rfl) (by kernel_rfl) (by kernel_rfl) (fun _ _ _ _ h => h) HS.out ?hi_0 ?ki_0
                case hi_0 => intro W hW K hK; obtain ⟨c0, c1, c2, c3, c4, c5⟩ := hW; go_simp; exact hK
                refine anyS_quiet (a2 := ?ai_1) 1 rfl rfl rfl (by kernel_rfl) (by kernel_rfl) (by kernel_rfl) (by kernel_rfl) (by kernel_rfl) (by kernel_rfl) (fun _ _ _ _ h => h) HS.out ?hi_1 ?ki_1
                case hi_1 => intro W hW K hK; obtain ⟨c0, c1, c2, c3, c4, c5⟩ := hW; go_simp; exact hK
                refine anyS_quiet (a2 := ?ai_2) 2 rfl rfl rfl (by kernel_rfl) (by kernel_rfl) (by kernel_rfl) (by kernel_rfl) (by kernel_rfl) (by kernel_rfl) (fun _ _ _ _ h => h) HS.out ?hi_2 ?ki_2
                case hi_2 => intro W hW K hK; obtain ⟨c0, c1, c2, c3, c4, c5⟩ := hW; go_simp; exact hK
                refine anyS_quiet (a2 := ?ai_3) 3 rfl rfl rfl (by kernel_rfl) (by kernel_rfl) (by kernel_rfl) (by kernel_rfl) (by kernel_rfl) (by kernel_rfl) (fun _ _ _ _ h => h) HS.out ?hi_3 ?ki_3
                case hi_3 => intro W hW K hK; obtain ⟨c0, c1, c2, c3, c4, c5⟩ := hW; go_simp; exact hK
                refine anyS_quiet (a2 := ?ai_4) 4 rfl rfl rfl (by kernel_rfl) (by kernel_rfl) (by kernel_rfl) (by kernel_rfl) (by kernel_rfl) (by kernel_rfl) (fun _ _ _ _ h => h) HS.out ?hi_4 ?ki_4
                case hi_4 => intro W hW K hK; obtain ⟨c0, c1, c2, c3, c4, c5⟩ := hW; go_simp; exact hK
                refine anyS_quiet (a2 := ?ai_5) 5 rfl rfl rfl (by kernel_rfl) (by kernel_rfl) (by kernel_rfl) (by kernel_rfl) (by kernel_rfl) (by kernel_rfl) (fun _ _ _ _ h => h) HS.out ?hi_5 ?ki_5
                case hi_5 => intro W hW K hK; obtain ⟨c0, c1, c2, c3, c4, c5⟩ := hW; go_simp; exact hK
                refine anyS_quiet (a2 := ?ai_6) 6 rfl rfl rfl (by kernel_rfl) (by kernel_rfl) (by kernel_rfl) (by kernel_rfl) (by kernel_rfl) (by kernel_rfl) (fun _ _ _ _ h => h) HS.out ?hi_6 ?ki_6
                case hi_6 => intro W hW K hK; obtain ⟨c0, c1, c2, c3, c4, c5⟩ := hW; go_simp; exact hK
                refine anyS_quiet (a2 := ?aj_8) 8 rfl rfl rfl (by kernel_rfl) (by kernel_rfl) (by kernel_rfl) (by kernel_rfl) (by kernel_rfl) (by kernel_rfl) (fun _ _ _ _ h => h) HS.out ?hj_8 ?kj_8
                case hj_8 => intro W hW K hK; obtain ⟨c0, c1, c2, c3, c4, c5⟩ := hW; go_simp; exact hK
                have HL5' := Lib.hid (HL5.out.more (Keeps.refl _ W5).drew)
                have HJ5' : Hid (J (xs.length + c.texts.length + k) W5.drew) := Lib.hid (abides_ex HJ.out HJ5.out (Keeps.refl _ W5).drew)
                have HR5' : Hid (RD W5.drew m opT) := Lib.hid (HR5.out.ext (Keeps.refl _ W5).drew)
                refine anyS_two 7 9 rfl rfl (by kernel_rfl) ?_ ?_
                · gi_wp2
                  refine And.intro (.inr (HS0.out _ (HBa5.out.alloc _).drew (HBb5.out.alloc _).drew).out) ?_
                  obtain ⟨W6, hW6⟩ : ∃ W6, (W5.alloc (.cells #[.int .i64 x.a, .int .i64 x.b] 3)).drew = W6 := ⟨_, rfl⟩
                  obtain ⟨bi, hbi⟩ : ∃ bi, W5.heap.size = bi := ⟨_, rfl⟩
                  have hX6 : Ex W5 W6 := by rw [← hW6]; exact ((Keeps.refl _ W5).alloc _).drew
                  have hBi : Blk W6 bi #[.int .i64 x.a, .int .i64 x.b] 3 := by rw [← hW6, ← hbi]; exact (Blk.new W5 _ _).drew
                  rw [hW6]
                  try rw [hbi]
                  have hop := operands_any (nm := o.name) (HVa.out.ext hX6) (HVb.out.ext hX6)
                  rw [HQe.out] at hop
                  have HOp := Lib.hid hop; have HX6 := Lib.hid hX6; have HBi := Lib.hid hBi
                  have HS := HS0.out W6 (hX6.blk HBa5.out id) (hX6.blk HBb5.out id)
                  clear hW6 hbi hX6 hBi hop
                  refine anyS_only 9 rfl (by kernel_rfl) ?_
                  gi_wp2_with fail
                  refine (callsIn_WF HOp.out).mono ?_
                  rintro e w7 ⟨rfl, hx7⟩
                  have HX7 := Lib.hid (HX6.out.trans hx7)
                  have HL7 := Lib.hid (HL5.out.more HX7.out)
                  have HJ7 : Hid (J (xs.length + c.texts.length + k) w7) := Lib.hid (abides_ex HJ.out HJ5.out HX7.out)
                  have HR7 := Lib.hid (HR5.out.ext HX7.out)
                  have HBa7 := Lib.hid (HX7.out.blk HBa5.out id); have HBb7 := Lib.hid (HX7.out.blk HBb5.out id)
                  have HBi7 := Lib.hid (hx7.blk HBi.out id)
                  have HS := HS0.out w7 HBa7.out HBb7.out
                  clear hx7
                  gi_wp2
                  refine And.intro (.inr HS.out) ?_
                  have hn1 := numbers_any (HT.out.ext HL7.out.ex) (((Blk.rdI (l := [x.a, x.b]) HBi7.out)).take encI_len q (by have := HQ.out; simpa using this)) (by have := List.length_take_le q [x.a, x.b]; simp at this ⊢; omega) (fun n hn => by
                    have hm := List.mem_of_mem_take hn
                    have h1 := HIns.out
                    simp only [List.mem_cons, List.not_mem_nil, or_false] at hm
                    rcases hm with rfl | rfl
                    · exact h1.1
                    · exact h1.2.1)
                  have hz1 := numsB_len (l := [x.a, x.b].take q) (fun n hn => by
                    have hm := List.mem_of_mem_take hn
                    have h1 := HIns.out
                    simp only [List.mem_cons, List.not_mem_nil, or_false] at hm
                    rcases hm with rfl | rfl
                    · exact h1.1
                    · exact h1.2.1)
                  have hz2 : (numsB ([x.a, x.b].take q)).length ≤ 44 := by
                    refine Nat.le_trans hz1 ?_
                    have := List.length_take_le q [x.a, x.b]
                    have h2 : [x.a, x.b].length = 2 := rfl
                    have h3 : ([x.a, x.b].take q).length ≤ 2 := by rw [List.length_take, h2]; omega
                    omega
                  obtain ⟨s1, hs1⟩ : ∃ s1, numsB ([x.a, x.b].take q) = s1 := ⟨_, rfl⟩
                  rw [hs1] at hn1 hz2
                  have HN1 := Lib.hid hn1; have Hs1 := Lib.hid hs1; have HZ1 := Lib.hid hz2
                  have HS := HS0.out _ HBa7.out HBb7.out
                  have hq2 : (q : Int) ≤ 2 := by have := HQ.out; omega
                  clear hn1 hz1 hz2 hs1
                  refine anyS_only 10 rfl (by kernel_rfl) ?_
                  gi_wp2
                  refine And.intro (.inr HS.out) ?_
                  refine anyS_only 11 rfl (by kernel_rfl) ?_
                  gi_wp2_with fail
                  refine (callsIn_WF HN1.out).mono ?_
                  rintro e w8 ⟨rfl, hx8⟩
                  have HL8 := Lib.hid (HL7.out.more hx8)
                  have HJ8 : Hid (J (xs.length + c.texts.length + k) w8) := Lib.hid (abides_ex HJ.out HJ7.out hx8)
                  have HBa8 := Lib.hid (hx8.blk HBa7.out id); have HBb8 := Lib.hid (hx8.blk HBb7.out id)
                  have HR8 := Lib.hid (HR7.out.ext hx8)
                  have HS := HS0.out _ HBa8.out HBb8.out
                  clear hx8 hq2
                  gi_wp2
                  refine And.intro (.inr HS.out) ?_
                  have hnz := HNz.out
                  have g1 : ¬ 9223372036854775807 < o.name.size + s1.length := by have := HZ1.out; omega
                  refine anyS_only 12 rfl (by kernel_rfl) ?_
                  gi_wp2
                  refine And.intro (.inr HS.out) ?_
                  obtain ⟨fn, tmps, assign, body, hyld, hR⟩ := HY.out _ _ w8 HJ8.out HLine.out
                  rw [Hs1.out, ← name_bytes] at hyld
                  have HR := Lib.hid hR
                  clear hR hnz g1
                  refine anyS_only 13 rfl (by kernel_rfl) ?_
                  gi_wp2
                  refine HR.out.mono ?_
                  rintro e w9 (⟨rfl, hJ9, hk9⟩ | ⟨rfl, hJx9, hk9⟩)
                  · have HL9 := Lib.hid (HL8.out.kept HB0.out hk9)
                    have HBa9 := Lib.hid (hk9.blk HBa8.out (by decide) (by decide)); have HBb9 := Lib.hid (hk9.blk HBb8.out (by decide) (by decide))
                    have HR9 := Lib.hid (hk9.rd HR8.out)
                    have HJ9 := Lib.hid hJ9
                    have HS := HS0.out _ HBa9.out HBb9.out
                    clear hk9 hJ9
                    gi_wp2
                    refine And.intro (.inr HS.out) ?_
                    refine anyS_only 14 rfl (by kernel_rfl) ?_
                    gi_wp2
                    refine And.intro (.inr HS.out) ?_
                    refine anyS_done (by kernel_rfl) ?_ _
                    gi_wp2
                    go_roundw
                    case rel => exact ⟨k + 1, by omega, by go_num, HL9, HR9, HJ9⟩
                    case measure => simp [intOf]; omega
                  · have HBa9 := Lib.hid (hk9.blk HBa8.out (by decide) (by decide)); have HBb9 := Lib.hid (hk9.blk HBb8.out (by decide) (by decide))
                    have HJx9 := Lib.hid hJx9
                    have HS := HS0.out _ HBa9.out HBb9.out
                    clear hk9 hJx9
                    gi_wp2
                    refine And.intro (.inr HS.out) ?_
                    refine anyS_only 14 rfl (by kernel_rfl) ?_
                    gi_wp2
                    refine And.intro (.inr HS.out) ?_
                    refine anyS_done (by kernel_rfl) ?_ _
                    gi_wp2
                    refine bodyPost_ret (results_none rfl _ _ _) rfl ?_
                    rw [← HM.out]
                    exact ⟨⟨_, rfl⟩, .inr ⟨_, HKL.out, HJx9.out⟩⟩
                · have hop := operands_any (nm := o.name) (HVa.out.ext (Keeps.refl _ W5).drew) (HVb.out.ext (Keeps.refl _ W5).drew)
                  rw [HQe.out] at hop
                  have HOp := Lib.hid hop
                  clear hop
                  gi_wp2_with fail
                  refine (callsIn_WF HOp.out).mono ?_
                  rintro e w6 ⟨rfl, hx6⟩
                  have HX6 := Lib.hid ((Keeps.refl (fun _ => False) W5).drew.trans hx6)
                  have HBa6 := Lib.hid (HX6.out.blk HBa5.out id); have HBb6 := Lib.hid (HX6.out.blk HBb5.out id)
                  have HS := HS0.out w6 HBa6.out HBb6.out
                  clear hx6
                  gi_wp2
                  refine And.intro (.inr HS.out) ?_
                  refine anyS_only 7 rfl (by kernel_rfl) ?_
                  gi_wp2
                  refine And.intro (.inr (HS0.out _ (HBa6.out.alloc _) (HBb6.out.alloc _)).out) ?_
                  obtain ⟨w7, hW7⟩ : ∃ w7, w6.alloc (.cells #[.int .i64 x.a, .int .i64 x.b] 3) = w7 := ⟨_, rfl⟩
                  obtain ⟨bi, hbi⟩ : ∃ bi, w6.heap.size = bi := ⟨_, rfl⟩
                  have hX67 : Ex w6 w7 := by rw [← hW7]; exact (Keeps.refl _ w6).alloc _
                  have hBi : Blk w7 bi #[.int .i64 x.a, .int .i64 x.b] 3 := by rw [← hW7, ← hbi]; exact Blk.new w6 _ _
                  rw [hW7]
                  try rw [hbi]
                  have HX7 := Lib.hid (HX6.out.trans hX67); have HBi7 := Lib.hid hBi
                  clear hW7 hbi hX67 hBi
                  have HL7 := Lib.hid (HL5.out.more HX7.out)
                  have HJ7 : Hid (J (xs.length + c.texts.length + k) w7) := Lib.hid (abides_ex HJ.out HJ5.out HX7.out)
                  have HR7 := Lib.hid (HR5.out.ext HX7.out)
                  have HBa7 := Lib.hid (HX7.out.blk HBa5.out id); have HBb7 := Lib.hid (HX7.out.blk HBb5.out id)
                  have hn1 := numbers_any (HT.out.ext HL7.out.ex) (((Blk.rdI (l := [x.a, x.b]) HBi7.out)).take encI_len q (by have := HQ.out; simpa using this)) (by have := List.length_take_le q [x.a, x.b]; simp at this ⊢; omega) (fun n hn => by
                    have hm := List.mem_of_mem_take hn
                    have h1 := HIns.out
                    simp only [List.mem_cons, List.not_mem_nil, or_false] at hm
                    rcases hm with rfl | rfl
                    · exact h1.1
                    · exact h1.2.1)
                  have hz1 := numsB_len (l := [x.a, x.b].take q) (fun n hn => by
                    have hm := List.mem_of_mem_take hn
                    have h1 := HIns.out
                    simp only [List.mem_cons, List.not_mem_nil, or_false] at hm
                    rcases hm with rfl | rfl
                    · exact h1.1
                    · exact h1.2.1)
                  have hz2 : (numsB ([x.a, x.b].take q)).length ≤ 44 := by
                    refine Nat.le_trans hz1 ?_
                    have := List.length_take_le q [x.a, x.b]
                    have h2 : [x.a, x.b].length = 2 := rfl
                    have h3 : ([x.a, x.b].take q).length ≤ 2 := by rw [List.length_take, h2]; omega
                    omega
                  obtain ⟨s1, hs1⟩ : ∃ s1, numsB ([x.a, x.b].take q) = s1 := ⟨_, rfl⟩
                  rw [hs1] at hn1 hz2
                  have HN1 := Lib.hid hn1; have Hs1 := Lib.hid hs1; have HZ1 := Lib.hid hz2
                  have HS := HS0.out _ HBa7.out HBb7.out
                  have hq2 : (q : Int) ≤ 2 := by have := HQ.out; omega
                  clear hn1 hz1 hz2 hs1
                  refine anyS_only 10 rfl (by kernel_rfl) ?_
                  gi_wp2
                  refine And.intro (.inr HS.out) ?_
                  refine anyS_only 11 rfl (by kernel_rfl) ?_
                  gi_wp2_with fail
                  refine (callsIn_WF HN1.out).mono ?_
                  rintro e w8 ⟨rfl, hx8⟩
                  have HL8 := Lib.hid (HL7.out.more hx8)
                  have HJ8 : Hid (J (xs.length + c.texts.length + k) w8) := Lib.hid (abides_ex HJ.out HJ7.out hx8)
                  have HBa8 := Lib.hid (hx8.blk HBa7.out id); have HBb8 := Lib.hid (hx8.blk HBb7.out id)
                  have HR8 := Lib.hid (HR7.out.ext hx8)
                  have HS := HS0.out _ HBa8.out HBb8.out
                  clear hx8 hq2
                  gi_wp2
                  refine And.intro (.inr HS.out) ?_
                  have hnz := HNz.out
                  have g1 : ¬ 9223372036854775807 < o.name.size + s1.length := by have := HZ1.out; omega
                  refine anyS_only 12 rfl (by kernel_rfl) ?_
                  gi_wp2
                  refine And.intro (.inr HS.out) ?_
                  obtain ⟨fn, tmps, assign, body, hyld, hR⟩ := HY.out _ _ w8 HJ8.out HLine.out
                  rw [Hs1.out, ← name_bytes] at hyld
                  have HR := Lib.hid hR
                  clear hR hnz g1
                  refine anyS_only 13 rfl (by kernel_rfl) ?_
                  gi_wp2
                  refine HR.out.mono ?_
                  rintro e w9 (⟨rfl, hJ9, hk9⟩ | ⟨rfl, hJx9, hk9⟩)
                  · have HL9 := Lib.hid (HL8.out.kept HB0.out hk9)
                    have HBa9 := Lib.hid (hk9.blk HBa8.out (by decide) (by decide)); have HBb9 := Lib.hid (hk9.blk HBb8.out (by decide) (by decide))
                    have HR9 := Lib.hid (hk9.rd HR8.out)
                    have HJ9 := Lib.hid hJ9
                    have HS := HS0.out _ HBa9.out HBb9.out
                    clear hk9 hJ9
                    gi_wp2
                    refine And.intro (.inr HS.out) ?_
                    refine anyS_only 14 rfl (by kernel_rfl) ?_
                    gi_wp2
                    refine And.intro (.inr HS.out) ?_
                    refine anyS_done (by kernel_rfl) ?_ _
                    gi_wp2
                    go_roundw
                    case rel => exact ⟨k + 1, by omega, by go_num, HL9, HR9, HJ9⟩
                    case measure => simp [intOf]; omega
                  · have HBa9 := Lib.hid (hk9.blk HBa8.out (by decide) (by decide)); have HBb9 := Lib.hid (hk9.blk HBb8.out (by decide) (by decide))
                    have HJx9 := Lib.hid hJx9
                    have HS := HS0.out _ HBa9.out HBb9.out
                    clear hk9 hJx9
                    gi_wp2
                    refine And.intro (.inr HS.out) ?_
                    refine anyS_only 14 rfl (by kernel_rfl) ?_
                    gi_wp2
                    refine And.intro (.inr HS.out) ?_
                    refine anyS_done (by kernel_rfl) ?_ _
                    gi_wp2
                    refine bodyPost_ret (results_none rfl _ _ _) rfl ?_
                    rw [← HM.out]
                    exact ⟨⟨_, rfl⟩, .inr ⟨_, HKL.out, HJx9.out⟩⟩
end Go.Proofs.YtlaepkmnbbgbcaaGreatDoor
