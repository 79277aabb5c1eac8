/- Print, of a code without virtual patterns, labels and reals. The shelf's contracts for strings.Cut, Split, HasPrefix, HasSuffix and strconv.Atoi, laid at this program (written by the kit's lay-shelf and lay-plain, cut down by wip/tools/prune.py). want, number15, numbersOf. One operation in a fence (out of HK), for the code's texts. -/
import Derived.Test.YtlaepkmnbbgbcaaGreatDoorGB11
import Derived.Test.YtlaepkmnbbgbcaaGreatDoorGB1
import Derived.Shelf.Strconv.Atoi
import Derived.Shelf.Strings.Cut
import Derived.Shelf.Strings.Prefix
import Derived.Shelf.Strings.Split
import Derived.Test.YtlaepkmnbbgbcaaGreatDoorGB10
import Derived.Test.YtlaepkmnbbgbcaaGreatDoorGB9
import Derived.WalkSmall
import Derived.Test.YtlaepkmnbbgbcaaGreatDoorGB4
/- Print, of a code without virtual patterns, labels and reals. -/
namespace Go.Proofs.YtlaepkmnbbgbcaaGreatDoor
open Go.RowKit Go.Instr Go.Shelf
set_option linter.unusedVariables false
set_option linter.unusedSimpArgs false
attribute [local go_sem] Oper.semAt_some

theorem enters_lines1 (args : Array Value) (w : World) : (callFunc 96 args).run Tryz.prog w = .ok (.enter 96 args) w := enters_of Tryz.func96 (by kernel_rfl) rfl args w
theorem lines_any {w : World} (da la ta ra ia : Option Addr) (dn ln tn rn ino dc lc tc rc ic : Nat) :
    Calls Tryz.prog 54 #[codeV (.slice da dn dc) (.slice la ln lc) (.slice ta tn tc) (.slice ra rn rc) (.slice ia ino ic)] w fun e w' => ∃ bc, e = .returned (.func (.func 96) #[] #[.pointer (some ⟨bc, 0, none⟩)]) ∧ w' = w.alloc (.cells #[.slice da dn dc, .slice la ln lc, .slice ta tn tc, .slice ra rn rc, .slice ia ino ic] 28) ∧ bc = w.heap.size := by
  unfold codeV
  go_enter Tryz.func54, Tryz.ntmps54
  go_wp2
  go_ret
  exact ⟨_, rfl, rfl, rfl⟩
/-- The text of such a code. -/
def printL (c : Co) : List UInt8 := (linesL c).flatMap fun l => l ++ [10]
/-- What Print answers. -/
def PrintR (w : World) (c : Co) (e : Ending) (w' : World) : Prop := e = .returned (.tuple #[.string ⟨(printL c).toArray⟩, .int .i64 0]) ∧ Ex w w'
theorem lines_len : ∀ (L : List (List UInt8)), (∀ l ∈ L, l.length ≤ 100000000) → ∀ k, ((L.take k).flatMap fun l => l ++ [10]).length ≤ k * 100000001
  | [], _, k => by simp
  | l :: L, h, 0 => by simp
  | l :: L, h, k + 1 => by
    have := lines_len L (fun l hl => h l (List.mem_cons_of_mem _ hl)) k
    have := h l (List.mem_cons_self)
    simp only [List.take_succ_cons, List.flatMap_cons, List.length_append, List.length_cons, List.length_nil]
    omega
/-- What stands after k lines. -/
structure PrI (w : World) (B b : Nat) (c : Co) (k : Nat) (W : World) : Prop where
  bld : Bld B b (((linesL c).take k).flatMap fun l => l ++ [10]) W
  ex : Ex w W
  sz : b + 1 ≤ W.heap.size
theorem Bld.grown {B b : Nat} {l : List UInt8} {w w' : World} {row : Option Nat} (h : Bld B b l w) (hg : w.grownBy w' row) (hr : ∀ r, row = some r → ∃ o : Obj, w.heap[r]? = some o ∧ o.isCells = false) : Bld B b l w' := by
  have key : ∀ {p : Value}, Lib.BuilderAtF 100 5 B b p (Lib.byteCells l) w → Lib.BuilderAtF 100 5 B b p (Lib.byteCells l) w' := by
    intro p ⟨h1, v, h2, h3, h4⟩
    refine ⟨h1, v, (grownBy_keeps_cells hg hr h2 rfl).trans h2, ?_, h4⟩
    rcases h3.2 with e | ⟨g, cap, cur, fz, e, h5, h6, h7⟩
    · exact ⟨h3.1, .inl e⟩
    · exact ⟨h3.1, .inr ⟨g, cap, cur, fz, e, h5, (grownBy_keeps_cells hg hr h6 rfl).trans h6, h7⟩⟩
  exact h.elim (fun h => .inl (key h)) (fun h => .inr (key h))
theorem Bld.blk {B b : Nat} {l : List UInt8} {w : World} (h : Bld B b l w) : ∃ (cs : Array Value) (fz : Nat × Nat), w.heap[b]? = some (.cells cs 100 fz) := by
  rcases h with ⟨h1, v, h2, h3, h4⟩ | ⟨h1, v, h2, h3, h4⟩
  · exact ⟨_, _, h2⟩
  · exact ⟨_, _, h2⟩
theorem PrI.own {w : World} {B b B' : Nat} {c : Co} (hB : w.heap.size ≤ B') : OwnFrom B' (PrI w B b c) := by
  intro k W W' row h hg hr
  exact ⟨h.bld.grown hg (fun r e => (hr r e).2), h.ex.grown hg (fun k e => .inr (by have := (hr k e).1; omega)), by have := hg.size; have := h.sz; omega⟩
set_option maxRecDepth 100000 in
set_option maxHeartbeats 4000000 in
theorem Print_any {w : World} {dv lv tv rv iv : Value} {c : Co} {xs : List DeV} (h : RdCo w dv lv tv rv iv c xs) (ht : Tab w) (hb : Big c) (hsm : Simple c) (hg : (chk c).1 = 0) (hlen : ∀ l ∈ linesL c, l.length ≤ 100000000) (hmany : (linesL c).length ≤ 1000000) :
    Calls Tryz.prog 18 #[codeV dv lv tv rv iv] w (PrintR w c) := by
  obtain ⟨W1, hW1⟩ : ∃ W1, w.alloc (.cells #[dv, lv, tv, rv, iv] 28) = W1 := ⟨_, rfl⟩
  obtain ⟨b0, hb0⟩ : ∃ b0, w.heap.size = b0 := ⟨_, rfl⟩
  have hX1 : Ex w W1 := by rw [← hW1]; exact (Keeps.refl _ w).alloc _
  have hB0 : Blk W1 b0 #[dv, lv, tv, rv, iv] 28 := by rw [← hW1, ← hb0]; exact Blk.new w _ _
  have hwf := wellFormed_any (h.ext hX1) hb
  rw [decide_eq_true hg] at hwf
  obtain ⟨da, dc, rfl, -⟩ := id h.ds
  obtain ⟨la, lc, rfl, -⟩ := id h.ls
  obtain ⟨ta, tc, rfl, -⟩ := id h.ts
  obtain ⟨ra, rc, rfl, -⟩ := id h.rs
  obtain ⟨ia, ic, rfl, -⟩ := id h.is
  have HF0 : ∀ V, Ex W1 V → Hid (V.cell? ⟨b0, 0, none⟩ = some (.slice da xs.length dc) ∧ V.cell? ⟨b0, 1, none⟩ = some (.slice la c.labels.length lc) ∧ V.cell? ⟨b0, 2, none⟩ = some (.slice ta c.texts.length tc) ∧ V.cell? ⟨b0, 3, none⟩ = some (.slice ra c.reals.length rc) ∧ V.cell? ⟨b0, 4, none⟩ = some (.slice ia c.instrs.length ic)) := fun V hV =>
    ⟨((hV.blk hB0 id).cell 0).trans rfl, ((hV.blk hB0 id).cell 1).trans rfl, ((hV.blk hB0 id).cell 2).trans rfl, ((hV.blk hB0 id).cell 3).trans rfl, ((hV.blk hB0 id).cell 4).trans rfl⟩
  unfold codeV at hwf ⊢
  have H := Lib.hid h; have HX1 := Lib.hid hX1; have HW1 := Lib.hid hW1; have Hb0 := Lib.hid hb0; have HWF := Lib.hid hwf; have HT := Lib.hid ht; have Hb := Lib.hid hb; have HSm := Lib.hid hsm; have HLen := Lib.hid hlen; have HMany := Lib.hid hmany
  clear h hX1 hB0 hW1 hb0 hwf ht hb hsm hg hlen hmany
  generalize hM : PrintR w c = M
  have HM := Lib.hid hM
  clear hM
  obtain ⟨x0, x1, x2, x3, x4⟩ := (HF0 W1 (Keeps.refl _ _)).out
  have hW1 := HW1.out
  have hb0 := Hb0.out
  refine (callsIn_wide (n := 9)).1 ?_
  rw [← WF_none]
  have hro : (WF none).round = none := rfl
  refine callsIn_of_wp_marks Tryz.func18 rfl trivial ?_ hro
  simp only [Tryz.ntmps18, List.size_toArray, List.length_cons, List.length_nil, Nat.reduceAdd, Nat.reduceSub, Array.replicate_succ, Array.replicate_zero, List.push_toArray, List.append_toArray, List.nil_append, List.cons_append]
  gi_wp2_with fail
  try rw [hW1]
  try rw [hb0]
  clear hW1 hb0
  refine (callsIn_WF HWF.out).mono ?_
  rintro e w2 ⟨rfl, hx2⟩
  have HX2 := Lib.hid hx2
  clear hx2 x0 x1 x2 x3 x4
  obtain ⟨W3, hW3⟩ : ∃ W3, w2.alloc (.cells #[.pointer none, .slice none 0 0] 100) = W3 := ⟨_, rfl⟩
  obtain ⟨bB, hbB⟩ : ∃ bB, w2.heap.size = bB := ⟨_, rfl⟩
  have hX3 : Ex W1 W3 := by rw [← hW3]; exact HX2.out.alloc _
  have hB3 : Bld bB bB [] W3 := by rw [← hW3, ← hbB]; exact Bld.new w2
  have hs3 : W3.heap.size = bB + 1 := by rw [← hW3, World.size_alloc, hbB]
  have HX3 := Lib.hid hX3; have HB3 := Lib.hid hB3; have Hs3 := Lib.hid hs3
  have hwB : w.heap.size ≤ bB := by have := HX1.out.size; have := HX2.out.size; omega
  have HwB := Lib.hid hwB
  clear hX3 hB3 hs3 hwB
  obtain ⟨x0, x1, x2, x3, x4⟩ := (HF0 W3 HX3.out).out
  have HLs := Lib.hid (lines_any (w := W3) da la ta ra ia xs.length c.labels.length c.texts.length c.reals.length c.instrs.length dc lc tc rc ic)
  unfold codeV at HLs
  gi_wp2_with fail
  try rw [hW3]
  try rw [hbB]
  clear hW3 hbB
  refine (callsIn_WF HLs.out).mono ?_
  rintro e w4 ⟨bc, rfl, hw4, hbc⟩
  have hL4 : Lin w bB bc da la ta ra ia xs.length c.labels.length c.texts.length c.reals.length c.instrs.length dc lc tc rc ic w4 := by
    subst hw4; subst hbc
    exact ⟨(HX1.out.trans HX3.out).alloc _, by rw [World.size_alloc, Hs3.out]; omega, Blk.new W3 _ _⟩
  have hB4 : Bld bB bB [] w4 := by rw [hw4]; exact HB3.out.kept ((Keeps.refl _ W3).alloc _)
  have hs4 : bB + 1 ≤ w4.heap.size := by rw [hw4, World.size_alloc, Hs3.out]; omega
  have HL4 := Lib.hid hL4; have HB4 := Lib.hid hB4; have Hs4 := Lib.hid hs4
  clear hL4 hB4 hs4 hw4 hbc x0 x1 x2 x3 x4
  have hsq : SeqIs2 8 Tryz.prog 96 #[.pointer (some ⟨bc, 0, none⟩)] (fun l : List UInt8 => #[.string ⟨l.toArray⟩]) (KpL bB) (linesL c) w4 := by
    intro l J Jx W hW hJ hJx hY h0
    exact lines_in 8 (by decide) l bc bB w H.out HT.out HwB.out Hb.out HSm.out J Jx hY W (HL4.out.more ⟨hW.os, hW.tape, hW.output, hW.size, fun k hk _ => hW.block k hk⟩) hJ h0
  have HSQ := Lib.hid hsq
  clear hsq
  gi_wp2_with fail
  have hln : ∀ k, (((linesL c).take k).flatMap fun l => l ++ [10]).length ≤ k * 100000001 := fun k => lines_len _ HLen.out k
  have HLn := Lib.hid hln
  clear hln
  refine rangeFunc_nth2 (gf := 96) (lb := #[.pointer (some ⟨bc, 0, none⟩)]) rfl enters_lines1 HSQ.out (fun h k => h.trans k) (fun W l o o' hl ho hc hw => KpL.putObj (by have := Hs4.out; omega) ho hc hw) (fun _ => rfl)
    (PrI w bB bB c) (fun _ _ _ => False) (PrI.own (by have := Hs4.out; have := HwB.out; omega)) (fun _ _ _ _ _ hs _ _ => hs)
    ⟨HB4.out, HL4.out.ex, Hs4.out⟩
    (fun l => { tmps := #[.agg #[.slice da xs.length dc, .slice la c.labels.length lc, .slice ta c.texts.length tc, .slice ra c.reals.length rc, .slice ia c.instrs.length ic], .pointer (some ⟨b0, 0, none⟩), .string ⟨#[]⟩, .int .i64 0, .pointer (some ⟨bB, 0, none⟩), .string ⟨l.toArray⟩, .agg #[.slice da xs.length dc, .slice la c.labels.length lc, .slice ta c.texts.length tc, .slice ra c.reals.length rc, .slice ia c.instrs.length ic], .bool true, .bool false, .agg #[.slice da xs.length dc, .slice la c.labels.length lc, .slice ta c.texts.length tc, .slice ra c.reals.length rc, .slice ia c.instrs.length ic], .func (.func 96) #[] #[.pointer (some ⟨bc, 0, none⟩)], .string ⟨l.toArray⟩, undef, undef, undef, undef], defers := [] }) ?assign ?body ?done ?stop
  case assign =>
    intro l y W K hK
    gi_wp2
    exact hK
  case stop => exact fun D c k W _ _ h => h.elim
  case body =>
    intro l k y W hI hyk
    obtain ⟨hB, hX, hS⟩ := hI
    have hlk := HLn.out k
    have hk : k < (linesL c).length := (List.getElem?_eq_some_iff.1 hyk).1
    have hm := HMany.out
    have hy1 := HLen.out y (List.mem_of_getElem? hyk)
    have e1 : (⟨y.toArray⟩ ++ ⟨#[10]⟩ : ByteArray) = ⟨(y ++ [10]).toArray⟩ := bytes_add y [10]
    have e2 : ((linesL c).take (k + 1)).flatMap (fun l => l ++ [10]) = (((linesL c).take k).flatMap fun l => l ++ [10]) ++ (y ++ [10]) := by
      rw [List.take_add_one, hyk]; simp
    obtain ⟨p, hp⟩ : ∃ p, ((linesL c).take k).flatMap (fun l => l ++ [10]) = p := ⟨_, rfl⟩
    rw [hp] at hB e2 hlk
    have hsz : ((⟨(y ++ [10]).toArray⟩ : ByteArray)).size = y.length + 1 := by simp [ByteArray.size]
    have hwr := write_any bB bB p ⟨(y ++ [10]).toArray⟩ W hB (by rw [hsz]; have : k * 100000001 ≤ 1000000 * 100000001 := Nat.mul_le_mul_right _ (by omega); omega) (by omega)
    obtain ⟨vB, fz, hbl⟩ := hB.blk
    have HWr := Lib.hid hwr; have HX := Lib.hid hX; have HE2 := Lib.hid e2; have Hbl := Lib.hid hbl; have HSz := Lib.hid hS
    have hlt : y.length + 1 ≤ 1000000000 := by omega
    clear hwr hX e2 hbl hS hB hp hlk hk hm hy1 hsz hyk
    gi_wp2_with fail
    refine (callsIn_WF HWr.out).mono ?_
    rintro e W2 ⟨rfl, hB2, hlow, hok⟩
    have HR : Hid (KeepsFrom w4.heap.size W W2 ∧ KpL bB W W2 ∧ PrI w bB bB c (k + 1) W2) := by
      refine Lib.hid ⟨⟨hlow.size, fun j o _ hj ho => hok j o hj (fun e => ?_) (fun c fz e => ?_)⟩, KpL.of hlow hok Hbl.out, ?_, ex_of_below HX.out HwB.out hlow (by have := HSz.out; omega), by have := HSz.out; have := hlow.size; omega⟩
      · injection e with e; subst e; rw [Hbl.out] at hj; injection hj with hj; subst hj; cases ho
      · subst e; cases ho
      · rw [HE2.out]; simpa using hB2
    clear hB2 hlow hok
    gi_wp2_with fail
    exact HR.out
  case done =>
    intro D W hD hI hK
    obtain ⟨hB, hX, hS⟩ := hI
    rw [List.take_length] at hB
    have e0 : (linesL c).flatMap (fun l => l ++ [10]) = printL c := rfl
    rw [e0] at hB
    have hst := Sh.Builder_String_any_k bB bB (printL c) W hB (by omega)
    have HSt := Lib.hid hst; have HX := Lib.hid hX; have HSz := Lib.hid hS
    have HD := Lib.hid hD; have HK := Lib.hid hK
    clear hst hX hS hB e0 hD hK
    gi_wp2_with fail
    refine (callsIn_WF HSt.out).mono ?_
    rintro e W2 ⟨rfl, hB2, hlow, hok⟩
    have hK2 : W2.heap[D]? = some (.deferred (some [])) := hok D _ HK.out (fun e => by injection e with e; have := HD.out; have := Hs4.out; omega) (fun c fz e => by cases e)
    have hx2 : Ex w W2 := ex_of_below HX.out HwB.out hlow (by have := HSz.out; omega)
    obtain ⟨X2, hX2⟩ : ∃ X2, W2.putObj D (.deferred none) = X2 := ⟨_, rfl⟩
    have hx3 : Ex w X2 := by rw [← hX2]; exact hx2.putObj (.inr (by have := HD.out; have := Hs4.out; have := HwB.out; omega)) _
    have T1 := run_takeDeferred (P := Tryz.prog) hK2
    rw [hX2] at T1
    have HX3 := Lib.hid hx3
    clear hx3 hX2 hx2 hK2 hlow hok hB2
    gi_wp2
    refine ⟨by simp, .inl ⟨_, _, rfl, T1, ?_⟩⟩
    refine ⟨_, results_tmp2 rfl _ _ _, ?_⟩
    rw [← HM.out]
    exact ⟨rfl, HX3.out⟩
end Go.Proofs.YtlaepkmnbbgbcaaGreatDoor
/- The shelf's contracts for strings.Cut, Split, HasPrefix, HasSuffix and strconv.Atoi, laid at this program (written by the kit's lay-shelf and lay-plain, cut down by wip/tools/prune.py). -/
namespace Go.Proofs.YtlaepkmnbbgbcaaGreatDoor
open Go.Shelf Go.RowKit Go.Lib
set_option linter.unusedVariables false

def Sd.lays172_ren : Go.Shelf.Ren := ⟨fun | 172 => 216 | 244 => 236 | 245 => 237 | 247 => 249 | 279 => 250 | 280 => 251 | 281 => 252 | 282 => 253 | 287 => 256 | 316 => 257 | 171 => 134 | 205 => 258 | 321 => 259 | 322 => 260 | 243 => 169 | 246 => 202 | 283 => 224 | 284 => 225 | 285 => 226 | 286 => 227 | 129 => 168 | 317 => 241 | 318 => 242 | 319 => 243 | 320 => 244 | 337 => 254 | 338 => 255 | n => n, fun | 9 => 9 | 3 => 3 | 75 => 105 | 76 => 106 | 4 => 4 | 5 => 5 | 167 => 281 | 37 => 98 | 0 => 0 | 85 => 282 | 2 => 2 | 168 => 284 | 53 => 211 | 175 => 291 | 46 => 177 | 210 => 294 | 127 => 149 | 145 => 301 | 143 => 299 | 21 => 21 | 171 => 266 | 173 => 268 | 212 => 279 | 51 => 209 | 20 => 20 | 213 => 280 | 232 => 296 | 233 => 297 | 80 => 108 | n => n, fun | 15 => 4 | 16 => 5 | 17 => 1 | 18 => 6 | 19 => 7 | n => n⟩
theorem Sd.lays172 : Go.Proofs.Lays.n172 Tryz.prog Sd.lays172_ren := {
  mixed := by kernel_rfl
  f129 := Tryz.func168.trans (congrArg some (by kernel_rfl))
  f171 := Tryz.func134.trans (congrArg some (by kernel_rfl))
  f172 := Tryz.func216.trans (congrArg some (by kernel_rfl))
  f205 := Tryz.func258.trans (congrArg some (by kernel_rfl))
  f243 := Tryz.func169.trans (congrArg some (by kernel_rfl))
  f244 := Tryz.func236.trans (congrArg some (by kernel_rfl))
  f245 := Tryz.func237.trans (congrArg some (by kernel_rfl))
  f246 := Tryz.func202.trans (congrArg some (by kernel_rfl))
  f247 := Tryz.func249.trans (congrArg some (by kernel_rfl))
  f279 := Tryz.func250.trans (congrArg some (by kernel_rfl))
  f280 := Tryz.func251.trans (congrArg some (by kernel_rfl))
  f281 := Tryz.func252.trans (congrArg some (by kernel_rfl))
  f282 := Tryz.func253.trans (congrArg some (by kernel_rfl))
  f283 := Tryz.func224.trans (congrArg some (by kernel_rfl))
  f284 := Tryz.func225.trans (congrArg some (by kernel_rfl))
  f285 := Tryz.func226.trans (congrArg some (by kernel_rfl))
  f286 := Tryz.func227.trans (congrArg some (by kernel_rfl))
  f287 := Tryz.func256.trans (congrArg some (by kernel_rfl))
  f316 := Tryz.func257.trans (congrArg some (by kernel_rfl))
  f317 := Tryz.func241.trans (congrArg some (by kernel_rfl))
  f318 := Tryz.func242.trans (congrArg some (by kernel_rfl))
  f319 := Tryz.func243.trans (congrArg some (by kernel_rfl))
  f320 := Tryz.func244.trans (congrArg some (by kernel_rfl))
  f321 := Tryz.func259.trans (congrArg some (by kernel_rfl))
  f322 := Tryz.func260.trans (congrArg some (by kernel_rfl))
  f337 := Tryz.func254.trans (congrArg some (by kernel_rfl))
  f338 := Tryz.func255.trans (congrArg some (by kernel_rfl))
  t0 := Tryz.underlying0
  a0 := Tryz.isAgg0
  z0 := Tryz.sizeOf0
  v0 := Tryz.zeroValue0
  t2 := Tryz.underlying2
  a2 := Tryz.isAgg2
  z2 := Tryz.sizeOf2
  v2 := Tryz.zeroValue2
  t3 := Tryz.underlying3
  a3 := Tryz.isAgg3
  z3 := Tryz.sizeOf3
  v3 := Tryz.zeroValue3
  t4 := Tryz.underlying4
  a4 := Tryz.isAgg4
  z4 := Tryz.sizeOf4
  v4 := Tryz.zeroValue4
  t5 := Tryz.underlying5
  a5 := Tryz.isAgg5
  z5 := Tryz.sizeOf5
  v5 := Tryz.zeroValue5
  t9 := Tryz.underlying9
  a9 := Tryz.isAgg9
  z9 := Tryz.sizeOf9
  v9 := Tryz.zeroValue9
  t20 := Tryz.underlying20
  a20 := Tryz.isAgg20
  z20 := Tryz.sizeOf20
  v20 := Tryz.zeroValue20
  t21 := Tryz.underlying21
  a21 := Tryz.isAgg21
  z21 := Tryz.sizeOf21
  v21 := Tryz.zeroValue21
  t37 := Tryz.underlying98
  a37 := Tryz.isAgg98
  z37 := Tryz.sizeOf98
  v37 := Tryz.zeroValue98
  t46 := Tryz.underlying177
  a46 := Tryz.isAgg177
  z46 := Tryz.sizeOf177
  v46 := Tryz.zeroValue177
  t51 := Tryz.underlying209
  a51 := Tryz.isAgg209
  z51 := Tryz.sizeOf209
  v51 := Tryz.zeroValue209
  t53 := Tryz.underlying211
  a53 := Tryz.isAgg211
  z53 := Tryz.sizeOf211
  v53 := Tryz.zeroValue211
  t75 := Tryz.underlying105
  a75 := Tryz.isAgg105
  z75 := Tryz.sizeOf105
  v75 := Tryz.zeroValue105
  t76 := Tryz.underlying106
  a76 := Tryz.isAgg106
  z76 := Tryz.sizeOf106
  v76 := Tryz.zeroValue106
  t85 := Tryz.underlying282
  a85 := Tryz.isAgg282
  z85 := Tryz.sizeOf282
  v85 := Tryz.zeroValue282
  t127 := Tryz.underlying149
  a127 := Tryz.isAgg149
  z127 := Tryz.sizeOf149
  v127 := Tryz.zeroValue149
  t143 := Tryz.underlying299
  a143 := Tryz.isAgg299
  z143 := Tryz.sizeOf299
  v143 := Tryz.zeroValue299
  t145 := Tryz.underlying301
  a145 := Tryz.isAgg301
  z145 := Tryz.sizeOf301
  v145 := Tryz.zeroValue301
  t167 := Tryz.underlying281
  a167 := Tryz.isAgg281
  z167 := Tryz.sizeOf281
  v167 := Tryz.zeroValue281
  t168 := Tryz.underlying284
  a168 := Tryz.isAgg284
  z168 := Tryz.sizeOf284
  v168 := Tryz.zeroValue284
  t171 := Tryz.underlying266
  a171 := Tryz.isAgg266
  z171 := Tryz.sizeOf266
  v171 := Tryz.zeroValue266
  t173 := Tryz.underlying268
  a173 := Tryz.isAgg268
  z173 := Tryz.sizeOf268
  v173 := Tryz.zeroValue268
  t175 := Tryz.underlying291
  a175 := Tryz.isAgg291
  z175 := Tryz.sizeOf291
  v175 := Tryz.zeroValue291
  t210 := Tryz.underlying294
  a210 := Tryz.isAgg294
  z210 := Tryz.sizeOf294
  v210 := Tryz.zeroValue294
  t212 := Tryz.underlying279
  a212 := Tryz.isAgg279
  z212 := Tryz.sizeOf279
  v212 := Tryz.zeroValue279
  t213 := Tryz.underlying280
  a213 := Tryz.isAgg280
  z213 := Tryz.sizeOf280
  t232 := Tryz.underlying296
  a232 := Tryz.isAgg296
  z232 := Tryz.sizeOf296
  v232 := Tryz.zeroValue296
  t233 := Tryz.underlying297
  a233 := Tryz.isAgg297
  z233 := Tryz.sizeOf297
  v233 := Tryz.zeroValue297
  g15 := by kernel_rfl
  g16 := by kernel_rfl
  g17 := by kernel_rfl
  g18 := by kernel_rfl
  g19 := by kernel_rfl }
open Go.RowKit in
theorem Sd.strconv_Atoi (s : ByteArray) (n : Int) (hl : s.size ≤ 18) (h : Lib.atoi s.data.toList = some n) (w : World) :
    Calls Tryz.prog 216 #[.string s] w fun e w' => e = .returned (.tuple #[.int .i64 n, .nilIface]) ∧ ∃ t, w' = Lib.bytesWorld w 5 t := Any.strconv_Atoi Sd.lays172 s n hl h w
def Sd.lays145_ren : Go.Shelf.Ren := ⟨fun | 145 => 58 | 220 => 108 | 219 => 142 | 217 => 180 | 225 => 181 | 224 => 182 | 267 => 183 | 266 => 211 | 314 => 212 | n => n, fun | 9 => 9 | 4 => 4 | 59 => 119 | 3 => 3 | 5 => 5 | 46 => 177 | 146 => 251 | 51 => 209 | n => n, fun | 1 => 0 | n => n⟩
theorem Sd.lays145 : Go.Proofs.Lays.n145 Tryz.prog Sd.lays145_ren := {
  mixed := by kernel_rfl
  f145 := Tryz.func58.trans (congrArg some (by kernel_rfl))
  f217 := Tryz.func180.trans (congrArg some (by kernel_rfl))
  f219 := Tryz.func142.trans (congrArg some (by kernel_rfl))
  f220 := Tryz.func108.trans (congrArg some (by kernel_rfl))
  f224 := Tryz.func182.trans (congrArg some (by kernel_rfl))
  f225 := Tryz.func181.trans (congrArg some (by kernel_rfl))
  f266 := Tryz.func211.trans (congrArg some (by kernel_rfl))
  f267 := Tryz.func183.trans (congrArg some (by kernel_rfl))
  f314 := Tryz.func212.trans (congrArg some (by kernel_rfl))
  t3 := Tryz.underlying3
  a3 := Tryz.isAgg3
  z3 := Tryz.sizeOf3
  v3 := Tryz.zeroValue3
  t4 := Tryz.underlying4
  a4 := Tryz.isAgg4
  z4 := Tryz.sizeOf4
  v4 := Tryz.zeroValue4
  t5 := Tryz.underlying5
  a5 := Tryz.isAgg5
  z5 := Tryz.sizeOf5
  v5 := Tryz.zeroValue5
  t9 := Tryz.underlying9
  a9 := Tryz.isAgg9
  z9 := Tryz.sizeOf9
  v9 := Tryz.zeroValue9
  t46 := Tryz.underlying177
  a46 := Tryz.isAgg177
  z46 := Tryz.sizeOf177
  v46 := Tryz.zeroValue177
  t51 := Tryz.underlying209
  a51 := Tryz.isAgg209
  z51 := Tryz.sizeOf209
  v51 := Tryz.zeroValue209
  t59 := Tryz.underlying119
  a59 := Tryz.isAgg119
  z59 := Tryz.sizeOf119
  v59 := Tryz.zeroValue119
  t146 := Tryz.underlying251
  a146 := Tryz.isAgg251
  z146 := Tryz.sizeOf251
  v146 := Tryz.zeroValue251
  g1 := by kernel_rfl }
open Go.RowKit Go.Lib in
theorem Sd.strings_Cut (s sep : ByteArray) (m : Int) (w : World) (hs : s.size < 4294967281) (hm : w.cell? ⟨0, 0, none⟩ = some (.int .i64 m)) :
    Calls Tryz.prog 58 #[.string s, .string sep] w fun e w' => e = .returned (.tuple #[.string ⟨(Lib.cut s.data.toList sep.data.toList).1.toArray⟩, .string ⟨(Lib.cut s.data.toList sep.data.toList).2.1.toArray⟩, .bool (Lib.cut s.data.toList sep.data.toList).2.2]) ∧ ∃ n, w' = w.drewN n := Any.strings_Cut Sd.lays145 s sep m w hs hm
def Sd.lays99_ren : Go.Shelf.Ren := ⟨fun | 99 => 143 | 206 => 184 | n => n, fun | 9 => 9 | 4 => 4 | 3 => 3 | n => n, fun | n => n⟩
theorem Sd.lays99 : Go.Proofs.Lays.n99 Tryz.prog Sd.lays99_ren := {
  mixed := by kernel_rfl
  f99 := Tryz.func143.trans (congrArg some (by kernel_rfl))
  f206 := Tryz.func184.trans (congrArg some (by kernel_rfl))
  t3 := Tryz.underlying3
  a3 := Tryz.isAgg3
  z3 := Tryz.sizeOf3
  v3 := Tryz.zeroValue3
  t4 := Tryz.underlying4
  a4 := Tryz.isAgg4
  z4 := Tryz.sizeOf4
  v4 := Tryz.zeroValue4
  t9 := Tryz.underlying9
  a9 := Tryz.isAgg9
  z9 := Tryz.sizeOf9
  v9 := Tryz.zeroValue9 }
open Go.RowKit Go.Lib in
theorem Sd.strings_HasPrefix (s p : ByteArray) (w : World) :
    Calls Tryz.prog 143 #[.string s, .string p] w fun e w' => e = .returned (.bool (Lib.hasPrefix s.data.toList p.data.toList)) ∧ w' = w := Any.strings_HasPrefix Sd.lays99 s p w
def Sd.lays100_ren : Go.Shelf.Ren := ⟨fun | 100 => 144 | 207 => 185 | n => n, fun | 9 => 9 | 4 => 4 | 3 => 3 | n => n, fun | n => n⟩
theorem Sd.lays100 : Go.Proofs.Lays.n100 Tryz.prog Sd.lays100_ren := {
  mixed := by kernel_rfl
  f100 := Tryz.func144.trans (congrArg some (by kernel_rfl))
  f207 := Tryz.func185.trans (congrArg some (by kernel_rfl))
  t3 := Tryz.underlying3
  a3 := Tryz.isAgg3
  z3 := Tryz.sizeOf3
  v3 := Tryz.zeroValue3
  t4 := Tryz.underlying4
  a4 := Tryz.isAgg4
  z4 := Tryz.sizeOf4
  v4 := Tryz.zeroValue4
  t9 := Tryz.underlying9
  a9 := Tryz.isAgg9
  z9 := Tryz.sizeOf9
  v9 := Tryz.zeroValue9 }
open Go.RowKit Go.Lib in
theorem Sd.strings_HasSuffix (s p : ByteArray) (w : World) (hs : s.size ≤ 9223372036854775807) :
    Calls Tryz.prog 144 #[.string s, .string p] w fun e w' => e = .returned (.bool (Lib.hasSuffix s.data.toList p.data.toList)) ∧ w' = w := Any.strings_HasSuffix Sd.lays100 s p w hs
def Sd.lays146_ren : Go.Shelf.Ren := ⟨fun | 146 => 147 | 221 => 191 | 268 => 217 | 138 => 218 | 143 => 219 | 195 => 238 | 197 => 229 | 218 => 239 | 219 => 142 | 260 => 245 | 217 => 180 | 225 => 181 | 224 => 182 | 267 => 183 | 266 => 211 | 314 => 212 | n => n, fun | 9 => 9 | 31 => 24 | 3 => 3 | 4 => 4 | 0 => 0 | 105 => 248 | 21 => 21 | 5 => 5 | 46 => 177 | 119 => 287 | 139 => 290 | 138 => 289 | 146 => 251 | 51 => 209 | n => n, fun | 1 => 0 | 3 => 2 | 4 => 3 | n => n⟩
theorem Sd.lays146 : Go.Proofs.Lays.n146 Tryz.prog Sd.lays146_ren := {
  mixed := by kernel_rfl
  f138 := Tryz.func218.trans (congrArg some (by kernel_rfl))
  f143 := Tryz.func219.trans (congrArg some (by kernel_rfl))
  f146 := Tryz.func147.trans (congrArg some (by kernel_rfl))
  f195 := Tryz.func238.trans (congrArg some (by kernel_rfl))
  f197 := Tryz.func229.trans (congrArg some (by kernel_rfl))
  f217 := Tryz.func180.trans (congrArg some (by kernel_rfl))
  f218 := Tryz.func239.trans (congrArg some (by kernel_rfl))
  f219 := Tryz.func142.trans (congrArg some (by kernel_rfl))
  f221 := Tryz.func191.trans (congrArg some (by kernel_rfl))
  f224 := Tryz.func182.trans (congrArg some (by kernel_rfl))
  f225 := Tryz.func181.trans (congrArg some (by kernel_rfl))
  f260 := Tryz.func245.trans (congrArg some (by kernel_rfl))
  f266 := Tryz.func211.trans (congrArg some (by kernel_rfl))
  f267 := Tryz.func183.trans (congrArg some (by kernel_rfl))
  f268 := Tryz.func217.trans (congrArg some (by kernel_rfl))
  f314 := Tryz.func212.trans (congrArg some (by kernel_rfl))
  t0 := Tryz.underlying0
  a0 := Tryz.isAgg0
  z0 := Tryz.sizeOf0
  v0 := Tryz.zeroValue0
  t3 := Tryz.underlying3
  a3 := Tryz.isAgg3
  z3 := Tryz.sizeOf3
  v3 := Tryz.zeroValue3
  t4 := Tryz.underlying4
  a4 := Tryz.isAgg4
  z4 := Tryz.sizeOf4
  v4 := Tryz.zeroValue4
  t5 := Tryz.underlying5
  a5 := Tryz.isAgg5
  z5 := Tryz.sizeOf5
  v5 := Tryz.zeroValue5
  t9 := Tryz.underlying9
  a9 := Tryz.isAgg9
  z9 := Tryz.sizeOf9
  v9 := Tryz.zeroValue9
  t21 := Tryz.underlying21
  a21 := Tryz.isAgg21
  z21 := Tryz.sizeOf21
  v21 := Tryz.zeroValue21
  t31 := Tryz.underlying24
  a31 := Tryz.isAgg24
  z31 := Tryz.sizeOf24
  v31 := Tryz.zeroValue24
  t46 := Tryz.underlying177
  a46 := Tryz.isAgg177
  z46 := Tryz.sizeOf177
  v46 := Tryz.zeroValue177
  t51 := Tryz.underlying209
  a51 := Tryz.isAgg209
  z51 := Tryz.sizeOf209
  v51 := Tryz.zeroValue209
  t105 := Tryz.underlying248
  a105 := Tryz.isAgg248
  z105 := Tryz.sizeOf248
  v105 := Tryz.zeroValue248
  t119 := Tryz.underlying287
  a119 := Tryz.isAgg287
  z119 := Tryz.sizeOf287
  t138 := Tryz.underlying289
  a138 := Tryz.isAgg289
  z138 := Tryz.sizeOf289
  v138 := Tryz.zeroValue289
  t139 := Tryz.underlying290
  a139 := Tryz.isAgg290
  z139 := Tryz.sizeOf290
  v139 := Tryz.zeroValue290
  t146 := Tryz.underlying251
  a146 := Tryz.isAgg251
  z146 := Tryz.sizeOf251
  v146 := Tryz.zeroValue251
  g1 := by kernel_rfl
  g3 := by kernel_rfl
  g4 := by kernel_rfl }
open Go.RowKit Go.Lib in
theorem Sd.strings_Split (s sep : ByteArray) (m : Int) (w : World) (hs : s.size < 4294967281) (hm : w.cell? ⟨0, 0, none⟩ = some (.int .i64 m)) (h1 : 1 ≤ sep.size) :
    Calls Tryz.prog 147 #[.string s, .string sep] w fun e w' =>
      e = .returned (.slice (some ⟨w.heap.size, 0, none⟩) (Lib.countB s sep + 1) (Lib.countB s sep + 1)) ∧ w' = w.alloc (.cells ((Lib.splitB sep 0 (Lib.countB s sep) s).map Value.string).toArray 9) := Any.strings_Split Sd.lays146 (by kernel_rfl) s sep m w hs hm h1

end Go.Proofs.YtlaepkmnbbgbcaaGreatDoor
/- want, number15, numbersOf. -/
namespace Go.Proofs.YtlaepkmnbbgbcaaGreatDoor
open Go.RowKit Go.Instr Go.Shelf
set_option linter.unusedVariables false
set_option linter.unusedSimpArgs false
attribute [local go_sem] Oper.semAt_some

/-- The value that want panics with. -/
def badLine : Value := .iface 154 (.agg #[])
theorem want_true {w : World} : Calls Tryz.prog 111 #[.bool true] w fun e w' => e = .returned (.tuple #[]) ∧ w' = w := by
  go_enter Tryz.func111, Tryz.ntmps111
  go_wp2
  go_end0
  exact ⟨rfl, rfl⟩
theorem want_false {w : World} : Calls Tryz.prog 111 #[.bool false] w fun e w' => e = .panicked [{ v := badLine, recovered := false }] ∧ w' = w := by
  go_enter Tryz.func111, Tryz.ntmps111
  go_wp2
  exact ⟨rfl, rfl, rfl⟩
/-- The word is this number's numeral, and not too long. -/
structure Num (s : ByteArray) (n : Int) : Prop where
  eq : s = ⟨(Lib.itoa n).toArray⟩
  at_ : Lib.atoi s.data.toList = some n
  len : s.size ≤ 18
  big : (⟨(Lib.trimPrefix s.data.toList [45]).toArray⟩ : ByteArray).size ≤ 15
  int : I64 n
set_option maxRecDepth 100000 in
theorem number15_any {w : World} (ht : Tab w) {s : ByteArray} {n : Int} (h : Num s n) :
    Calls Tryz.prog 190 #[.string s] w fun e w' => e = .returned (.int .i64 n) ∧ Ex w w' := by
  have ha : Calls Tryz.prog 216 #[.string s] w fun e w' => e = .returned (.tuple #[.int .i64 n, .nilIface]) ∧ Ex w w' :=
    (Sd.strconv_Atoi s n h.len h.at_ w).mono (by rintro e w1 ⟨h1, t, rfl⟩; exact ⟨h1, bytesWorld_ex _ _ _⟩)
  have htp := fun w => Sh.strings_TrimPrefix s ⟨#[45]⟩ w
  have hit : ∀ w1, Ex w w1 → Calls Tryz.prog 134 #[.int .i64 n] w1 fun e w' => e = .returned (.string s) ∧ Ex w1 w' := fun w1 hx =>
    (Sh.strconv_Itoa n h.int.1 h.int.2 w1 (ht.ext hx)).mono (by rintro e w2 ⟨h1, h2⟩; exact ⟨by rw [h1, h.eq], ex_of_grow h2⟩)
  have hb : (((ByteArray.size ⟨(Lib.trimPrefix s.data.toList [45]).toArray⟩ : Nat) : Int) ≤ 15) := by have := h.big; omega
  have Ha := Lib.hid ha; have Htp := Lib.hid htp; have Hit := Lib.hid hit
  clear ha htp hit ht h
  go_enter Tryz.func190, Tryz.ntmps190
  go_wp2_with (go_at_call 216; refine Ha.out.mono ?_)
  rintro e w1 rfl hx1
  have HX1 := Lib.hid hx1
  clear hx1
  go_wp2_with (go_at_call 177; refine (Htp.out _).mono ?_)
  rintro e w2 ⟨rfl, rfl⟩
  go_wp2_with (go_at_call 134; refine (Hit.out _ HX1.out).mono ?_)
  rintro e w3 ⟨rfl, hx3⟩
  have HX3 := Lib.hid (HX1.out.trans hx3)
  clear hx3
  go_wp2_with (go_at_call 111; refine want_true.mono ?_)
  rintro e w4 ⟨rfl, rfl⟩
  go_wp2_with fail
  go_ret
  exact ⟨rfl, HX3.out⟩
set_option maxRecDepth 100000 in
theorem numbersOf_any {w : World} (ht : Tab w) {v : Value} {ss : List ByteArray} {l : List Int} (h : RdL encS w v ss) (hl : ss.length ≤ 1000000) (hn : ss.length = l.length) (hnum : ∀ (k : Nat) (s : ByteArray) (n : Int), ss[k]? = some s → l[k]? = some n → Num s n) :
    Calls Tryz.prog 146 #[v] w fun e w' => ∃ v', e = .returned v' ∧ OwnI w' w.heap.size v' l ∧ Ex w w' := by
  obtain ⟨a, c, rfl, -, h1, -⟩ := id h
  have hsz : w.heap.size ≤ w.heap.size := Nat.le_refl _
  have HX0 : Hid (Ex w w) := Lib.hid (Keeps.refl _ w)
  have HO0 : Hid (OwnI w w.heap.size (.slice none 0 0) []) := Lib.hid (World.ownsRow_nil _ _ _ _)
  generalize hbs : w.heap.size = bs at *
  have H := Lib.hid h; have HT := Lib.hid ht; have Hn := Lib.hid h1; have Hnum := Lib.hid hnum; have Hln := Lib.hid hn; have Hbs := Lib.hid hbs
  clear h ht h1 hnum hn hbs hsz
  go_enter Tryz.func146, Tryz.ntmps146
  go_wp2_with fail
  go_loopw [3, 8] (fun u s wr => ∃ k : Nat, k ≤ ss.length ∧ s = .int .i64 k ∧ Hid (Ex w wr) ∧ Hid (OwnI wr bs u (l.take k))) (fun u s wr => ss.length - (intOf s).toNat)
  case atStart => exact ⟨0, Nat.zero_le _, rfl, HX0, by simpa using HO0⟩
  case round =>
    obtain ⟨k, hk, rfl, HX, HO⟩ := hrel
    by_cases hlt : k < ss.length
    case pos =>
      obtain ⟨ad, rfl⟩ : ∃ ad, a = some ad := by
        cases a with
        | none => have := Hn.out rfl; subst this; simp at hlt
        | some ad => exact ⟨ad, rfl⟩
      obtain ⟨sk, hsk⟩ : ∃ sk, ss[k]? = some sk := ⟨_, List.getElem?_eq_getElem hlt⟩
      obtain ⟨nk, hnk⟩ : ∃ nk, l[k]? = some nk := ⟨_, List.getElem?_eq_getElem (by rw [← Hln.out]; exact hlt)⟩
      have z0 := (H.out.ext HX.out).at encS_len hsk 0 (by omega)
      rw [Addr.add_zero', Nat.mul_one] at z0
      have z : wr.cell? (ad.add k) = some (.string sk) := z0
      clear z0
      have hnum := number15_any (HT.out.ext HX.out) (Hnum.out k sk nk hsk hnk)
      have HNum := Lib.hid hnum; have Hsk := Lib.hid hsk; have Hnk := Lib.hid hnk
      clear hnum hsk hnk
      go_wp2_with (go_at_call 190; refine HNum.out.mono ?_)
      rintro e w1 ⟨rfl, hx1⟩
      obtain ⟨W2, hW2⟩ : ∃ W2, w1.alloc (.cells #[.int .i64 nk] 3) = W2 := ⟨_, rfl⟩
      have hX2 : Ex wr W2 := by rw [← hW2]; exact hx1.alloc _
      have hR2 : RdL encI W2 (.slice (some ⟨w1.heap.size, 0, none⟩) 1 1) [nk] := by rw [← hW2]; exact Blk.rdI (l := [nk]) (Blk.new w1 _ _)
      obtain ⟨b1, hb1⟩ : ∃ b1, w1.heap.size = b1 := ⟨_, rfl⟩
      rw [hb1] at hR2
      have HO2 : Hid (OwnI W2 bs u3 (l.take k)) := Lib.hid (HO.out.kept hX2 fun _ _ => id)
      have HX2 := Lib.hid (HX.out.trans hX2); have HR2 := Lib.hid hR2; have HW2 := Lib.hid hW2; have Hb1 := Lib.hid hb1
      clear hX2 hR2 hW2 hb1 hx1 z
      go_wp2_with (at_builtin; refine (fun h => h trivial : (True → _) → _) ?_)
      intro _
      rw [HW2.out]
      try rw [Hb1.out]
      refine wpList_appI rfl _ _ rfl bs _ _ rfl HO2.out _ [nk] rfl HR2.out (by rw [List.length_take]; show _ + 1 ≤ _; omega) (by have := HX2.out.size; have := Hbs.out; omega) ?_
      intro v6 w6 ho6 hx6 _
      have HO6 : Hid (OwnI w6 bs v6 (l.take (k + 1))) := Lib.hid (by rw [List.take_add_one, Hnk.out]; exact ho6)
      have HX6 : Hid (Ex w w6) := Lib.hid (HX2.out.ex HO2.out (by rw [Hbs.out]; exact Nat.le_refl _) hx6)
      clear ho6 hx6
      go_wp2_with fail
      go_roundw
      case rel => exact ⟨k + 1, by omega, by go_num, HX6, HO6⟩
      case measure => simp [intOf]; omega
    case neg =>
      have : k = ss.length := by omega
      subst this
      rw [Hln.out, List.take_length] at HO
      go_wp2_with fail
      go_ret
      exact ⟨_, rfl, HO.out, HX.out⟩
end Go.Proofs.YtlaepkmnbbgbcaaGreatDoor
/- One operation in a fence (out of HK), for the code's texts. -/
namespace Go.Proofs.YtlaepkmnbbgbcaaGreatDoor
open Go.RowKit Go.Instr
set_option linter.unusedVariables false
theorem cells_new (w : World) (c : List Value) (t : TypeId) : ∀ j u, c[j]? = some u → (w.alloc (.cells c.toArray t)).cell? ((⟨w.heap.size, 0, none⟩ : Addr).add j) = some u := by
  intro j u hj
  have : (⟨w.heap.size, 0, none⟩ : Addr).add j = ⟨w.heap.size, j, none⟩ := by unfold Addr.add; split <;> simp_all
  rw [this, (Blk.new w c.toArray t).cell]; simpa using hj
theorem own_slice {w : World} {b : Nat} {e : TypeId} {size n : Nat} {v : Value} {xs : List Value} (h : w.ownsRow b e size v n xs) : ∃ a c, v = .slice a n c := by
  rcases h.2 with ⟨h2, rfl⟩ | ⟨g, cap, cur, h1, r⟩
  · exact ⟨none, 0, h2⟩
  · exact ⟨_, _, h1⟩
section
variable {r : Option Nat} {n : Nat} {P : Program} {ops : Array Oper} {Q : Exit → Act → World → Prop} {rest : List Oper} {o : Oper} {a : Act} {w w2 : World}
theorem wpListIn_value {v : Value} (hg : o.guard = none) (hd : ∀ c, o.op ≠ .defer c) (hrun : (execOp a.eval o).run P w = .ok (.value v) w2) (hK : wpListIn (WF r) n P ops Q rest (a.put o.dst v) w2) : wpListIn (WF r) n P ops Q (o :: rest) a w := by
  unfold wpListIn
  simp only [Region.wanted, hg, if_true, Oper.wpIn, Oper.semAt_eq _ _ _ hd, hrun]
  exact ⟨fun _ _ => trivial, hK⟩
theorem wpListIn_skip (hg : o.guard = none) (hd : ∀ c, o.op ≠ .defer c) (hrun : (execOp a.eval o).run P w = .ok .skip w2) (hK : wpListIn (WF r) n P ops Q rest (a.put o.dst undef) w2) : wpListIn (WF r) n P ops Q (o :: rest) a w := by
  unfold wpListIn
  simp only [Region.wanted, hg, if_true, Oper.wpIn, Oper.semAt_eq _ _ _ hd, hrun]
  exact ⟨fun _ _ => trivial, hK⟩
theorem wpListIn_call {f : FuncId} {args : Array Value} {R : Ending → World → Prop} (hg : o.guard = none) (hd : ∀ c, o.op ≠ .defer c) (hrun : (execOp a.eval o).run P w = .ok (.enter f args) w2) (hc : Calls P f args w2 R)
    (hK : ∀ e w', R e w' → ∃ v, e = .returned v ∧ wpListIn (WF r) n P ops Q rest (a.put o.dst v) w') : wpListIn (WF r) n P ops Q (o :: rest) a w := by
  unfold wpListIn
  simp only [Region.wanted, hg, if_true, Oper.wpIn, Oper.semAt_eq _ _ _ hd, hrun]
  refine ⟨fun _ _ => trivial, fun h => (by cases h), ?_⟩
  refine CallsIn.mono (callsIn_WF hc) fun e w' he => ?_
  obtain ⟨v, rfl, h⟩ := hK e w' he
  exact h
theorem wpListIn_append_fresh (hgd : o.guard = none) (s x : Operand) (t : TypeId)
    (ho : o.op = .call { callee := .builtin .append, args := #[s, x], argTypes := #[t, t] })
    (base : Nat) (e : TypeId) (i : TypeInfo) (z : Value) (size bytes : Nat) (ht : P.underlying t = some (.slice e)) (hi : P.info? e = some i) (hz : i.zero = some z)
    (hsize : i.size = size) (hby : i.bytes = bytes) (hzs : z.cells.size = size) (hsz : 0 < size)
    (v : Value) (m0 : Nat) (xs : List Value) (hs : a.eval s = v) (hown : w.ownsRow base e size v m0 xs)
    (ad : Addr) (m c : Nat) (news : List Value) (hx : a.eval x = .slice (some ad) m c) (hl : news.length = m * size) (hnews : ∀ j u, news[j]? = some u → w.cell? (ad.add j) = some u) (h1 : ∀ u ∈ news, u.oneCell' = true)
    (h63 : m0 + m ≤ maxLen) (hbytes : (m0 + m) * bytes ≤ 140737488355328) (hbase : base ≤ w.heap.size)
    (h : ∀ v' w', w'.ownsRow base e size v' (m0 + m) (xs ++ news) → w.grownBy w' v.ownBlock → (v' = .slice none 0 0 ↔ v = .slice none 0 0 ∧ m = 0) → (∀ k, v'.ownBlock = some k → v.ownBlock = some k ∨ w.heap.size ≤ k) → wpListIn (WF r) n P ops Q rest (a.put o.dst v') w') : wpListIn (WF r) n P ops Q (o :: rest) a w := by
  obtain ⟨v', w', hr, h2, h3, h4, h5⟩ := append_own_fresh (P := P) w base t o.type e i z size bytes ht hi hz hsize hby hzs hsz v m0 xs hown ad m c news hl hnews h1 h63 hbytes hbase
  refine wpListIn_value hgd (fun c e => by rw [ho] at e; cases e) (v := v') (w2 := w') ?_ (h v' w' h2 h3 h4 h5)
  unfold execOp
  simp only [ho, resolve, invoke, builtin, Sem.run_bind, Sem.run_pure, Result.andThen_ok, List.map_toArray, List.map_cons, List.map_nil, hs, hx, hr]
end
end Go.Proofs.YtlaepkmnbbgbcaaGreatDoor
