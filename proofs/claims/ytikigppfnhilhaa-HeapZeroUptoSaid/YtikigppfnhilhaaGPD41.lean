/- blocks of the reference. kept of the reference; ints. ints. -/
import Derived.Test.YtikigppfnhilhaaGPD40
/- blocks of the reference. -/
namespace Go.Proofs.Ytikigppfnhilhaa
open Go.RowKit Go.Instr
set_option linter.unusedVariables false
set_option linter.unusedSimpArgs false
attribute [local go_sem] Oper.semAt_some

/-- A row of blocks all of whose parts lie behind n. -/
structure FreshRow (n : Nat) (w : World) (v : Value) (l : List RB) : Prop where
  row : rowR w n v l
  wo : wosR w l
  nd : (l.map RB.arr).Nodup
  low : ∀ y ∈ l, n ≤ y.arr
theorem FreshRow.keeps {n : Nat} {w w' : World} {v : Value} {l : List RB} (h : FreshRow n w v l) (hx : Ext w w') : FreshRow n w' v l :=
  ⟨rowR_ext h.row hx, fun y hy => hx.blk (h.wo y hy) id, h.nd, h.low⟩
theorem FreshRow.nil (n : Nat) (w : World) : FreshRow n w (.slice none 0 0) [] := ⟨rowR_nil _ _, by intro y hy; simp at hy, by simp, by intro y hy; simp at hy⟩
def movB (fr to : List Int) (b : Bk) : Bk := { b with ws := b.ws.map (movedW fr to) }
def RBlksR (w : World) (bs : List Bk) (e : Ending) (w' : World) : Prop := ∃ v l, e = .returned v ∧ l.map RB.b = bs ∧ FreshRow w.heap.size w' v l ∧ Ext w w'
theorem rowR_len {w : World} {n : Nat} {v : Value} {l : List RB} (h : rowR w n v l) : ∃ a c, v = .slice a l.length c := own_slice h
set_option maxRecDepth 100000 in
set_option maxHeartbeats 8000000 in
theorem Rblocks_any {w : World} {b1 b2 : Nat} {fa ta : Option Addr} {fc tc : Nat} {fr to : List Int} (hf : w.ownsRow b1 3 1 (.slice fa fr.length fc) fr.length (fr.map (Value.int .i64))) (ht : w.ownsRow b2 3 1 (.slice ta to.length tc) to.length (to.map (Value.int .i64))) (hlen : fr.length = to.length) (hl : fr.length ≤ 1000000)
    {v : Value} {bs : List Bk} (hr : RdB w v bs) (hb : bs.length ≤ 100000) (hw : ∀ b ∈ bs, b.ws.length ≤ 100000) :
    Calls Try.prog 98 #[v, .slice fa fr.length fc, .slice ta to.length tc] w (RBlksR w (bs.map (movB fr to))) := by
  have HF := Lib.hid hf; have HT := Lib.hid ht; have HR := Lib.hid hr; have HW := Lib.hid hw
  generalize hM : RBlksR w (bs.map (movB fr to)) = M
  have HM := Lib.hid hM
  obtain ⟨va, vc, rfl, -⟩ := hr
  have Hlen := Lib.hid hlen
  clear hM hf ht hlen hw
  go_enter Try.func98, Try.ntmps98
  go_wp2_with fail
  go_loopw [7, 8] (fun o i wr => ∃ k : Nat, ∃ l : List RB, ∃ oa oc, k ≤ bs.length ∧ i = .int .i64 k ∧ o = .slice oa k oc ∧ Hid (l.length = k) ∧ Hid (Ext w wr) ∧ Hid (FreshRow w.heap.size wr (.slice oa k oc) l) ∧ Hid (l.map RB.b = (bs.take k).map (movB fr to))) (fun o i wr => bs.length - (intOf i).toNat)
  case atStart => exact ⟨0, [], none, 0, Nat.zero_le _, rfl, rfl, Lib.hid rfl, Lib.hid (Ext.refl w), Lib.hid (FreshRow.nil _ _), Lib.hid (by simp)⟩
  case round =>
  obtain ⟨k, l, oa, oc, hk, rfl, rfl, HL, HX, HO, HB⟩ := hrel
  by_cases hlt : k < bs.length
  · obtain ⟨u, hu⟩ : ∃ u, bs[k]? = some u := ⟨_, List.getElem?_eq_getElem hlt⟩
    obtain ⟨ad, rfl⟩ : ∃ ad, va = some ad := by
      cases va with
      | none => obtain ⟨a', c', e, h0, -⟩ := HR.out; injection e with e1 e2 e3; subst e1; rw [h0 rfl] at hlt; simp at hlt
      | some ad => exact ⟨ad, rfl⟩
    obtain ⟨A, hA⟩ : ∃ A, ad.add (k * 3) = A := ⟨_, rfl⟩
    obtain ⟨su, a0, a1, a2, hsu⟩ := HR.out.at_ hu hA
    obtain ⟨sa, sc, rfl, -⟩ := id hsu
    have HS0 : ∀ V, Ext w V → Hid (V.cell? A = some (.int .i64 u.at_) ∧ V.cell? { block := A.block, off := A.off + (0 + 1) } = some (.int .i64 u.kind) ∧ V.cell? { block := A.block, off := A.off + (1 + 1) } = some (.slice sa u.ws.length sc)) := fun V hV => Lib.hid ⟨hV.cell a0, hV.cell a1, hV.cell a2⟩
    have HSU := Lib.hid hsu
    have HX9 : Hid (Ext w wr.drew) := Lib.hid HX.out.drew
    have HS := HS0 _ HX9.out
    have HO9 : Hid (FreshRow w.heap.size wr.drew (.slice oa k oc) l) := Lib.hid (HO.out.keeps (Ext.refl wr).drew)
    have HCW := Lib.hid (Rwords_any (own_ext HF.out HX9.out) (own_ext HT.out HX9.out) Hlen.out hl (HSU.out.ext HX9.out) (Nat.le_trans (HW.out u (List.mem_of_getElem? hu)) (by omega)))
    have Hu := Lib.hid hu
    clear hu a0 a1 a2 HX HO hsu
    go_upto_region 5 with fail
    refine region_S_plain (n := 3) (fun V => V.cell? A = some (.int .i64 u.at_) ∧ V.cell? { block := A.block, off := A.off + (0 + 1) } = some (.int .i64 u.kind) ∧ V.cell? { block := A.block, off := A.off + (1 + 1) } = some (.slice sa u.ws.length sc)) 23 (by kernel_rfl) ?_
    generalize wr.drew = w9 at HX9 HS HCW HO9 ⊢
    refine anyS_quiet (a2 := ?a0) 0 rfl rfl rfl (by kernel_rfl) (by kernel_rfl) (by kernel_rfl) (by kernel_rfl) (by kernel_rfl) (by kernel_rfl) (fun _ _ _ _ h => h) HS.out ?h0 ?k0
    case h0 => intro W hW K hK; obtain ⟨d0, d1, d2⟩ := hW; go_simp; exact hK
    refine anyS_quiet (a2 := ?a1) 1 rfl rfl rfl (by kernel_rfl) (by kernel_rfl) (by kernel_rfl) (by kernel_rfl) (by kernel_rfl) (by kernel_rfl) (fun _ _ _ _ h => h) HS.out ?h1 ?k1
    case h1 => intro W hW K hK; obtain ⟨d0, d1, d2⟩ := hW; go_simp; exact hK
    refine anyS_quiet (a2 := ?a2) 2 rfl rfl rfl (by kernel_rfl) (by kernel_rfl) (by kernel_rfl) (by kernel_rfl) (by kernel_rfl) (by kernel_rfl) (fun _ _ _ _ h => h) HS.out ?h2 ?k2
    case h2 => intro W hW K hK; obtain ⟨d0, d1, d2⟩ := hW; go_simp; exact hK
    refine anyS_quiet (a2 := ?a3) 3 rfl rfl rfl (by kernel_rfl) (by kernel_rfl) (by kernel_rfl) (by kernel_rfl) (by kernel_rfl) (by kernel_rfl) (fun _ _ _ _ h => h) HS.out ?h3 ?k3
    case h3 => intro W hW K hK; obtain ⟨d0, d1, d2⟩ := hW; go_simp; exact hK
    refine anyS_quiet (a2 := ?a4) 4 rfl rfl rfl (by kernel_rfl) (by kernel_rfl) (by kernel_rfl) (by kernel_rfl) (by kernel_rfl) (by kernel_rfl) (fun _ _ _ _ h => h) HS.out ?h4 ?k4
    case h4 => intro W hW K hK; obtain ⟨d0, d1, d2⟩ := hW; go_simp; exact hK
    refine anyS_quiet (a2 := ?a5) 5 rfl rfl rfl (by kernel_rfl) (by kernel_rfl) (by kernel_rfl) (by kernel_rfl) (by kernel_rfl) (by kernel_rfl) (fun _ _ _ _ h => h) HS.out ?h5 ?k5
    case h5 => intro W hW K hK; obtain ⟨d0, d1, d2⟩ := hW; go_simp; exact hK
    refine anyS_quiet (a2 := ?a6) 6 rfl rfl rfl (by kernel_rfl) (by kernel_rfl) (by kernel_rfl) (by kernel_rfl) (by kernel_rfl) (by kernel_rfl) (fun _ _ _ _ h => h) HS.out ?h6 ?k6
    case h6 => intro W hW K hK; obtain ⟨d0, d1, d2⟩ := hW; go_simp; exact hK
    refine anyS_quiet (a2 := ?a7) 7 rfl rfl rfl (by kernel_rfl) (by kernel_rfl) (by kernel_rfl) (by kernel_rfl) (by kernel_rfl) (by kernel_rfl) (fun _ _ _ _ h => h) HS.out ?h7 ?k7
    case h7 => intro W hW K hK; obtain ⟨d0, d1, d2⟩ := hW; go_simp; exact hK
    refine anyS_quiet (a2 := ?a8) 8 rfl rfl rfl (by kernel_rfl) (by kernel_rfl) (by kernel_rfl) (by kernel_rfl) (by kernel_rfl) (by kernel_rfl) (fun _ _ _ _ h => h) HS.out ?h8 ?k8
    case h8 => intro W hW K hK; obtain ⟨d0, d1, d2⟩ := hW; go_simp; exact hK
    refine anyS_quiet (a2 := ?a9) 9 rfl rfl rfl (by kernel_rfl) (by kernel_rfl) (by kernel_rfl) (by kernel_rfl) (by kernel_rfl) (by kernel_rfl) (fun _ _ _ _ h => h) HS.out ?h9 ?k9
    case h9 => intro W hW K hK; obtain ⟨d0, d1, d2⟩ := hW; go_simp; exact hK
    refine anyS_quiet (a2 := ?a10) 10 rfl rfl rfl (by kernel_rfl) (by kernel_rfl) (by kernel_rfl) (by kernel_rfl) (by kernel_rfl) (by kernel_rfl) (fun _ _ _ _ h => h) HS.out ?h10 ?k10
    case h10 => intro W hW K hK; obtain ⟨d0, d1, d2⟩ := hW; go_simp; exact hK
    refine anyS_quiet (a2 := ?a11) 11 rfl rfl rfl (by kernel_rfl) (by kernel_rfl) (by kernel_rfl) (by kernel_rfl) (by kernel_rfl) (by kernel_rfl) (fun _ _ _ _ h => h) HS.out ?h11 ?k11
    case h11 => intro W hW K hK; obtain ⟨d0, d1, d2⟩ := hW; go_simp; exact hK
    refine anyS_quiet (a2 := ?a12) 12 rfl rfl rfl (by kernel_rfl) (by kernel_rfl) (by kernel_rfl) (by kernel_rfl) (by kernel_rfl) (by kernel_rfl) (fun _ _ _ _ h => h) HS.out ?h12 ?k12
    case h12 => intro W hW K hK; obtain ⟨d0, d1, d2⟩ := hW; go_simp; exact hK
    refine anyS_quiet (a2 := ?a13) 13 rfl rfl rfl (by kernel_rfl) (by kernel_rfl) (by kernel_rfl) (by kernel_rfl) (by kernel_rfl) (by kernel_rfl) (fun _ _ _ _ h => h) HS.out ?h13 ?k13
    case h13 => intro W hW K hK; obtain ⟨d0, d1, d2⟩ := hW; go_simp; exact hK
    refine anyS_quiet (a2 := ?a14) 14 rfl rfl rfl (by kernel_rfl) (by kernel_rfl) (by kernel_rfl) (by kernel_rfl) (by kernel_rfl) (by kernel_rfl) (fun _ _ _ _ h => h) HS.out ?h14 ?k14
    case h14 => intro W hW K hK; obtain ⟨d0, d1, d2⟩ := hW; go_simp; exact hK
    refine anyS_quiet (a2 := ?a15) 15 rfl rfl rfl (by kernel_rfl) (by kernel_rfl) (by kernel_rfl) (by kernel_rfl) (by kernel_rfl) (by kernel_rfl) (fun _ _ _ _ h => h) HS.out ?h15 ?k15
    case h15 => intro W hW K hK; obtain ⟨d0, d1, d2⟩ := hW; go_simp; exact hK
    refine anyS_quiet (a2 := ?a16) 16 rfl rfl rfl (by kernel_rfl) (by kernel_rfl) (by kernel_rfl) (by kernel_rfl) (by kernel_rfl) (by kernel_rfl) (fun _ _ _ _ h => h) HS.out ?h16 ?k16
    case h16 => intro W hW K hK; obtain ⟨d0, d1, d2⟩ := hW; go_simp; exact hK
    refine anyS_quiet (a2 := ?a17) 17 rfl rfl rfl (by kernel_rfl) (by kernel_rfl) (by kernel_rfl) (by kernel_rfl) (by kernel_rfl) (by kernel_rfl) (fun _ _ _ _ h => h) HS.out ?h17 ?k17
    case h17 => intro W hW K hK; obtain ⟨d0, d1, d2⟩ := hW; go_simp; exact hK
    refine anyS_only 18 rfl (by kernel_rfl) ?_
    gi_wp2_with fail
    refine (callsIn_WF HCW.out).mono ?_
    rintro e w10 ⟨arr, rfl, hblk, harr, hx10⟩
    simp only [List.length_map]
    have HX10 := Lib.hid (HX9.out.trans hx10)
    have HO10 := Lib.hid (HO9.out.keeps hx10)
    have HBa := Lib.hid hblk
    have Harr := Lib.hid harr
    have Hnew : Hid (∀ y ∈ l, y.arr < w9.heap.size) := Lib.hid fun y hy => (HO9.out.wo y hy).lt
    have HS2 := HS0 _ HX10.out
    clear hx10 hblk harr HS HCW HO9
    gi_wp2
    refine And.intro (by first | exact .inr HS2.out | exact HS2.out) ?_
    refine anyS_quiet (a2 := ?ab_19) 19 rfl rfl rfl (by kernel_rfl) (by kernel_rfl) (by kernel_rfl) (by kernel_rfl) (by kernel_rfl) (by kernel_rfl) (fun _ _ _ _ h => h) HS2.out ?hb_19 ?kb_19
    case hb_19 => intro W hW K hK; obtain ⟨d0, d1, d2⟩ := hW; go_simp; exact hK
    refine anyS_only 20 rfl (by kernel_rfl) ?_
    gi_wp2
    refine And.intro (by first | exact .inr ⟨cell_allocO HS2.out.1 _, cell_allocO HS2.out.2.1 _, cell_allocO HS2.out.2.2 _⟩ | exact ⟨cell_allocO HS2.out.1 _, cell_allocO HS2.out.2.1 _, cell_allocO HS2.out.2.2 _⟩) ?_
    refine anyS_only 21 rfl (by kernel_rfl) ?_
    obtain ⟨i0, hi, hz0, hz1, hz2⟩ := info_parts info_Block
    have Hrow3 : Hid (rowR (w10.alloc (.cells #[.int .i64 u.at_, .int .i64 u.kind, .slice (some ⟨arr, 0, none⟩) u.ws.length u.ws.length] 49)) w.heap.size (.slice oa k oc) l) := Lib.hid (rowR_ext HO10.out.row ((Ext.refl w10).alloc _))
    have Hsz := Lib.hid HX10.out.size
    refine wpListIn_append_fresh rfl _ _ 28 rfl w.heap.size 49 i0 _ 3 40 Try.underlying28 hi hz0 hz1 hz2 rfl (by decide) (.slice oa k oc) l.length _ rfl Hrow3.out ⟨w10.heap.size, 0, none⟩ 1 1 [Value.int .i64 u.at_, Value.int .i64 u.kind, Value.slice (some ⟨arr, 0, none⟩) u.ws.length u.ws.length] rfl rfl ?c1 ?c2 ?c3 ?c4 ?c5 ?_
    case c1 => exact cells_new w10 _ 49
    case c2 => simp [Value.oneCell']
    case c3 => have := HL.out; unfold maxLen; omega
    case c4 => have := HL.out; omega
    case c5 => simp; have := Hsz.out; omega
    intro v' W4 hown hgrow hnil hfresh
    obtain ⟨va, vc, rfl⟩ := own_slice hown
    have HX4 : Hid (Ext w W4) := Lib.hid ((HX10.out.alloc _).grown hgrow fun j e => .inr (Hrow3.out.lt j e).1)
    have hk4 : Keeps (fun j => Value.ownBlock (.slice oa k oc) = some j) w10 W4 := ((Keeps.refl _ w10).alloc _).grown hgrow fun j e => .inl e
    have HS4 := HS0 _ HX4.out
    have HBa4 := Lib.hid (hk4.blk HBa.out fun e => by
      have h1 := HO10.out.row
      obtain ⟨cur, hc⟩ := ownsRow_type h1 e
      exact hc.ne HBa.out (by decide) rfl)
    have Hwo4 : Hid (wosR W4 l) := Lib.hid fun y hy => hk4.blk (HO10.out.wo y hy) fun e => by
      obtain ⟨cur, hc⟩ := ownsRow_type HO10.out.row e
      exact hc.ne (HO10.out.wo y hy) (by decide) rfl
    have Hown : Hid (rowR W4 w.heap.size (.slice va (l.length + 1) vc) (l ++ [⟨arr, movB fr to u⟩])) := Lib.hid (by
      unfold rowR
      rw [bksApp, List.length_append]
      have e1 : bksCells ([(⟨arr, movB fr to u⟩ : RB)].map RB.b) ([(⟨arr, movB fr to u⟩ : RB)].map RB.sl) = [Value.int .i64 u.at_, Value.int .i64 u.kind, Value.slice (some ⟨arr, 0, none⟩) u.ws.length u.ws.length] := by simp [bksCells, bkCells, RB.sl, movB]
      rw [e1]; exact hown)
    clear hown hgrow hnil hfresh hk4
    gi_wp2
    refine And.intro (by first | exact .inr HS4.out | exact HS4.out) ?_
    refine anyS_quiet (a2 := ?ac_22) 22 rfl rfl rfl (by kernel_rfl) (by kernel_rfl) (by kernel_rfl) (by kernel_rfl) (by kernel_rfl) (by kernel_rfl) (fun _ _ _ _ h => h) HS4.out ?hc_22 ?kc_22
    case hc_22 => intro W hW K hK; obtain ⟨d0, d1, d2⟩ := hW; go_simp; exact hK
    refine anyS_done (by kernel_rfl) ?_ _
    clear hA
    go_wp2_with fail
    refine ⟨⟨k + 1, l ++ [⟨arr, movB fr to u⟩], va, vc, by omega, by simp, by rw [HL.out], Lib.hid (by simp [HL.out]), HX4, Lib.hid ⟨?_, ?_, ?_, ?_⟩, Lib.hid ?_⟩, by simp only [intOf]; omega⟩
    · have := Hown.out; rw [HL.out] at this; exact this
    · intro y hy
      rcases List.mem_append.1 hy with hy | hy
      · exact Hwo4.out y hy
      · simp at hy; rw [hy]; exact HBa4.out
    · rw [List.map_append, List.nodup_append]
      refine ⟨HO10.out.nd, by simp, ?_⟩
      intro a ha b hb2 e
      obtain ⟨y, hy, rfl⟩ := List.mem_map.1 ha
      simp at hb2
      have h1 := Hnew.out y hy
      have h2 := Harr.out
      omega
    · intro y hy
      rcases List.mem_append.1 hy with hy | hy
      · exact HO10.out.low y hy
      · simp at hy; rw [hy]
        have h1 := Harr.out; have h2 := HX9.out.size
        show w.heap.size ≤ arr; omega
    · rw [List.map_append, HB.out, List.take_add_one, Hu.out, List.map_append]; simp
  · have hkn : k = bs.length := by omega
    subst hkn
    go_wp2_with fail
    rw [← HM.out]
    exact ⟨_, l, rfl, by rw [HB.out, List.take_length], HO.out, HX.out⟩
end Go.Proofs.Ytikigppfnhilhaa
/- kept of the reference; ints. -/
namespace Go.Proofs.Ytikigppfnhilhaa
open Go.RowKit Go.Instr
set_option linter.unusedVariables false
set_option linter.unusedSimpArgs false
attribute [local go_sem] Oper.semAt_some

def RKeptR (w : World) (l : List RB) (e : Ending) (w' : World) : Prop := ∃ v, e = .returned v ∧ rowR w' w.heap.size v l ∧ Ext w w'
theorem rowR_lit (w : World) (y : RB) {n : Nat} (hn : n ≤ w.heap.size) : rowR (w.alloc (.cells #[.int .i64 y.b.at_, .int .i64 y.b.kind, y.sl] 49)) n (.slice (some ⟨w.heap.size, 0, none⟩) 1 1) [y] := by
  have := World.ownsRow_lit (base := n) (e := 49) (size := 3) w #[.int .i64 y.b.at_, .int .i64 y.b.kind, y.sl] 1 hn (by decide) rfl
  exact this
theorem keepOne {l : List Int} {n : Nat} {a : Int} (hk : l[n]? = some a) (hs : l.Pairwise (· < ·)) : a ∉ l.take n := by
  intro h
  obtain ⟨i, hi⟩ := List.mem_iff_getElem?.1 h
  rw [List.getElem?_take] at hi
  split at hi
  · next hlt =>
    have h1 := (List.getElem?_eq_some_iff.1 hi); have h2 := (List.getElem?_eq_some_iff.1 hk)
    obtain ⟨p1, e1⟩ := h1; obtain ⟨p2, e2⟩ := h2
    have := (List.pairwise_iff_getElem.1 hs) i n p1 p2 hlt
    omega
  · cases hi
set_option maxRecDepth 100000 in
set_option maxHeartbeats 8000000 in
theorem Rkept_any {w : World} {base b2 : Nat} {v : Value} {l : List RB} (h : rowR w base v l) (hl : l.length ≤ 100000) {ka : Option Addr} {kc : Nat} {keep : List Int} (hk : w.ownsRow b2 3 1 (.slice ka keep.length kc) keep.length (keep.map (Value.int .i64))) (hs : keep.Pairwise (· < ·)) (hkl : keep.length ≤ 1000000) :
    Calls Try.prog 97 #[v, .slice ka keep.length kc] w (RKeptR w (l.filter fun y => decide (y.b.at_ ∈ keep))) := by
  have H := Lib.hid h; have HK := Lib.hid hk; have HSo := Lib.hid hs
  generalize hM : RKeptR w (l.filter fun y => decide (y.b.at_ ∈ keep)) = M
  have HM := Lib.hid hM
  obtain ⟨va, vc, rfl⟩ := rowR_len h
  clear hM h hk hs
  go_enter Try.func97, Try.ntmps97
  go_wp2_with fail
  go_loopw [5, 6] (fun o i wr => ∃ k : Nat, k ≤ l.length ∧ i = .int .i64 k ∧ Hid (rowR wr w.heap.size o ((l.take k).filter fun y => decide (y.b.at_ ∈ keep))) ∧ Hid (Ext w wr)) (fun o i wr => l.length - (intOf i).toNat)
  case atStart => exact ⟨0, Nat.zero_le _, rfl, Lib.hid (rowR_nil _ _), Lib.hid (Ext.refl w)⟩
  case round =>
  obtain ⟨k, hk, rfl, HO, HX⟩ := hrel
  obtain ⟨oa, oc, rfl⟩ := rowR_len HO.out
  by_cases hlt : k < l.length
  · obtain ⟨y, hy⟩ : ∃ y, l[k]? = some y := ⟨_, List.getElem?_eq_getElem hlt⟩
    obtain ⟨g, c, e, -⟩ := rowR_at H.out hy
    injection e with e e2 e3; subst e; clear e2 e3
    have HC : ∀ V, Ext w V → Hid (V.cell? ⟨g, k * 3, none⟩ = some (.int .i64 y.b.at_) ∧ V.cell? ⟨g, k * 3 + 1, none⟩ = some (.int .i64 y.b.kind) ∧ V.cell? ⟨g, k * 3 + 2, none⟩ = some y.sl) := fun V hV => by
      obtain ⟨g2, c2, e, h0, h1, h2⟩ := rowR_at (rowR_ext H.out hV) hy
      injection e with e _ _; injection e with e; injection e with e _ _; subst e
      exact Lib.hid ⟨h0, h1, h2⟩
    have Hy := Lib.hid hy
    obtain ⟨L, hL⟩ : ∃ L, (l.take k).filter (fun y => decide (y.b.at_ ∈ keep)) = L := ⟨_, rfl⟩
    rw [hL] at HO
    have HL := Lib.hid hL
    have HLn : Hid (L.length ≤ k) := Lib.hid (by rw [← hL]; exact Nat.le_trans (List.length_filter_le _ _) (by rw [List.length_take]; omega))
    have HO0 := HO
    have HX0 := HX
    clear hy
    rw [hL]
    clear hL HO HX
    go_wp2_with fail
    go_loopw [5, 7] (fun o j ws => ∃ m : Nat, m ≤ keep.length ∧ j = .int .i64 m ∧ Hid (rowR ws w.heap.size o (L ++ if y.b.at_ ∈ keep.take m then [y] else [])) ∧ Hid (Ext w ws)) (fun o j ws => keep.length - (intOf j).toNat)
    case atStart => exact ⟨0, Nat.zero_le _, rfl, by simpa using HO0, HX0⟩
    case round =>
    clear HO0 HX0
    obtain ⟨m, hm, rfl, HO, HX⟩ := hrel
    obtain ⟨qa, qc, rfl⟩ := rowR_len HO.out
    by_cases hlt2 : m < keep.length
    · obtain ⟨z, hz⟩ : ∃ z, keep[m]? = some z := ⟨_, List.getElem?_eq_getElem hlt2⟩
      obtain ⟨g2, c2, e, d0⟩ := ownI_getR (own_ext HK.out HX.out) hz
      injection e with e e2 e3; subst e; clear e2 e3
      have hno : z ∉ keep.take m := keepOne hz HSo.out
      have Hz := Lib.hid hz
      obtain ⟨a0, a1, a2⟩ := (HC _ HX.out).out
      clear hz
      by_cases he : z = y.b.at_
      · have he' : (z == y.b.at_) = true := by simpa using he
        have He := Lib.hid he
        have HO2 : Hid (rowR wr w.heap.size (.slice qa L.length qc) L) := Lib.hid (by
          have := HO.out
          rw [if_neg (by rw [← he]; exact hno)] at this
          simpa using this)
        have hlen : (L ++ if y.b.at_ ∈ keep.take m then [y] else []).length = L.length := by rw [if_neg (by rw [← he]; exact hno)]; simp
        rw [hlen]
        clear he hno HO hlen
        unfold RB.sl at a2
        go_upto_region 8 with fail
        go_big_region
        go_wp2_with (at_builtin; refine (fun h => h trivial : (True → _) → _) ?_)
        intro _
        have Hlit : Hid (rowR (wr.drew.alloc (.cells #[.int .i64 y.b.at_, .int .i64 y.b.kind, .slice (some ⟨y.arr, 0, none⟩) y.b.ws.length y.b.ws.length] 49)) w.heap.size (.slice (some ⟨wr.drew.heap.size, 0, none⟩) 1 1) [y]) := Lib.hid (rowR_lit wr.drew y HX.out.size)
        have HXa : Hid (Ext w (wr.drew.alloc (.cells #[.int .i64 y.b.at_, .int .i64 y.b.kind, .slice (some ⟨y.arr, 0, none⟩) y.b.ws.length y.b.ws.length] 49))) := Lib.hid (HX.out.drew.alloc _)
        have HOa : Hid (rowR (wr.drew.alloc (.cells #[.int .i64 y.b.at_, .int .i64 y.b.kind, .slice (some ⟨y.arr, 0, none⟩) y.b.ws.length y.b.ws.length] 49)) w.heap.size (.slice qa L.length qc) L) := Lib.hid (rowR_ext HO2.out ((Ext.refl wr).drew.alloc _))
        refine wpList_append_R rfl _ _ rfl w.heap.size _ L rfl HOa.out w.heap.size _ [y] rfl Hlit.out (by have := HLn.out; simp; omega) HXa.out.size ?_
        intro v1 w1 h1 hg1
        have HO1 := Lib.hid h1
        have HX1 : Hid (Ext w w1) := Lib.hid (HXa.out.grown hg1 fun j e => .inr (HOa.out.lt j e).1)
        clear h1 hg1 a0 a1 a2 d0
        go_wp2_with fail
        refine ⟨⟨m + 1, by omega, by simp, Lib.hid ?_, HX1⟩, by simp only [intOf]; omega⟩
        rw [if_pos (by rw [List.take_add_one, Hz.out, ← He.out]; simp)]
        exact HO1.out
      · have he' : (z == y.b.at_) = false := by simpa using he
        have He := Lib.hid he
        clear he hno
        go_upto_region 8 with fail
        go_big_region
        go_wp2_with fail
        refine ⟨⟨m + 1, by omega, by simp, Lib.hid ?_, Lib.hid HX.out.drew⟩, by simp only [intOf]; omega⟩
        have h1 : y.b.at_ ∈ keep.take (m + 1) ↔ y.b.at_ ∈ keep.take m := by
          rw [List.take_add_one, Hz.out]; simp
          exact fun e => (He.out e.symm).elim
        simp only [h1]
        exact rowR_ext HO.out (Ext.refl wr).drew
    · have hkn : m = keep.length := by omega
      have HO3 : Hid (rowR wr w.heap.size (.slice qa (L ++ if y.b.at_ ∈ keep.take m then [y] else []).length qc) ((l.take (k + 1)).filter fun y => decide (y.b.at_ ∈ keep))) := Lib.hid (by
        have e1 : (l.take (k + 1)).filter (fun y => decide (y.b.at_ ∈ keep)) = L ++ if y.b.at_ ∈ keep.take m then [y] else [] := by
          rw [List.take_add_one, Hy.out, List.filter_append, HL.out, hkn, List.take_length]
          by_cases hc : y.b.at_ ∈ keep <;> simp [hc]
        rw [e1]; exact HO.out)
      clear hkn
      go_wp2_with fail
      exact ⟨⟨k + 1, by omega, by simp, HO3, HX⟩, by simp only [intOf]; omega⟩
  · have hkn : k = l.length := by omega
    have HO3 : Hid (rowR wr w.heap.size (.slice oa ((l.take k).filter fun y => decide (y.b.at_ ∈ keep)).length oc) (l.filter fun y => decide (y.b.at_ ∈ keep))) := Lib.hid (by
      have := HO.out; rw [hkn, List.take_length] at this ⊢; exact this)
    clear hkn
    go_wp2_with fail
    rw [← HM.out]
    exact ⟨_, rfl, HO3.out, HX.out⟩
end Go.Proofs.Ytikigppfnhilhaa
/- ints. -/
namespace Go.Proofs.Ytikigppfnhilhaa
open Go.RowKit Go.Instr
set_option linter.unusedVariables false
set_option linter.unusedSimpArgs false
attribute [local go_sem] Oper.semAt_some

set_option maxRecDepth 100000 in
set_option maxHeartbeats 8000000 in
theorem ints_any {w : World} {b1 b2 : Nat} {u v : Value} {A B : List Int} (ha : w.ownsRow b1 3 1 u A.length (A.map (Value.int .i64))) (hb : w.ownsRow b2 3 1 v B.length (B.map (Value.int .i64))) (hl : A.length ≤ 1000000) (hl2 : B.length ≤ 1000000) :
    Calls Try.prog 59 #[u, v] w (BoolR (decide (A = B)) w) := by
  have HA := Lib.hid ha; have HB := Lib.hid hb
  generalize hM : BoolR (decide (A = B)) w = M
  have HM := Lib.hid hM
  obtain ⟨aa, ac, rfl⟩ := own_slice ha
  obtain ⟨ba, bc, rfl⟩ := own_slice hb
  clear hM ha hb
  by_cases hlen : A.length = B.length
  · have HLn := Lib.hid hlen
    have HB' : Hid (w.ownsRow b2 3 1 (.slice ba A.length bc) A.length (B.map (Value.int .i64))) := Lib.hid (by rw [hlen]; exact HB.out)
    rw [← hlen]
    clear hl2 HB hlen
    go_enter Try.func59, Try.ntmps59
    go_wp2_with fail
    go_loopw [5] (fun i wr => ∃ k : Nat, k ≤ A.length ∧ i = .int .i64 k ∧ Hid (A.take k = B.take k) ∧ Hid (Ext w wr)) (fun i wr => A.length - (intOf i).toNat)
    case atStart => exact ⟨0, Nat.zero_le _, rfl, Lib.hid (by simp), Lib.hid (Ext.refl w)⟩
    case round =>
    obtain ⟨k, hk, rfl, HT, HX⟩ := hrel
    by_cases hlt : k < A.length
    · obtain ⟨x, hx⟩ : ∃ z, A[k]? = some z := ⟨_, List.getElem?_eq_getElem hlt⟩
      obtain ⟨y, hy⟩ : ∃ z, B[k]? = some z := ⟨_, List.getElem?_eq_getElem (by rw [← HLn.out]; exact hlt)⟩
      obtain ⟨g, c, e, d0⟩ := ownI_getR (own_ext HA.out HX.out) hx
      injection e with e e2 e3; subst e; clear e2 e3
      have hb3 : wr.ownsRow b2 3 1 (.slice ba B.length bc) B.length (B.map (Value.int .i64)) := by have := own_ext HB'.out HX.out; rw [HLn.out] at this; exact this
      obtain ⟨g2, c2, e, d1⟩ := ownI_getR hb3 hy
      injection e with e e2 e3; subst e; clear e2 e3 hb3
      have Hx := Lib.hid hx; have Hy := Lib.hid hy
      clear hx hy
      by_cases he : x = y
      · have he' : (x != y) = false := by simpa using he
        have He := Lib.hid he
        clear he
        go_wp2_with fail
        go_big_region
        go_wp2_with fail
        exact ⟨⟨k + 1, by omega, by simp, Lib.hid (by rw [List.take_add_one, List.take_add_one, HT.out, Hx.out, Hy.out, He.out]), Lib.hid HX.out.drew⟩, by simp only [intOf]; omega⟩
      · have he' : (x != y) = true := by simpa using he
        have He : Hid (A ≠ B) := Lib.hid (by rintro rfl; rw [Hx.out] at Hy; have := Hy.out; injection this with this; exact he this)
        clear he
        go_wp2_with fail
        go_big_region
        go_wp2_with fail
        rw [← HM.out, decide_eq_false He.out]
        exact ⟨rfl, HX.out.drew⟩
    · have hkn : k = A.length := by omega
      have He : Hid (A = B) := Lib.hid (by
        have h1 := HT.out
        rw [hkn, List.take_length, HLn.out, List.take_length] at h1; exact h1)
      clear hkn
      go_wp2_with fail
      rw [← HM.out, decide_eq_true He.out]
      exact ⟨rfl, HX.out⟩
  · have He : Hid (A ≠ B) := Lib.hid (by rintro rfl; exact hlen rfl)
    have hne : ((A.length : Int) != (B.length : Int)) = true := by simp; omega
    clear hlen
    go_enter Try.func59, Try.ntmps59
    go_wp2_with fail
    rw [← HM.out, decide_eq_false He.out]
    exact ⟨rfl, Ext.refl _⟩
end Go.Proofs.Ytikigppfnhilhaa
