/- (*reader).desc. (*reader).line, where the line is a text. (*reader).line, where the line is a descriptor. -/
import Derived.Test.YtlaepkmnbbgbcaaGreatDoorGB12
import Derived.Shelf.RegionOpen
/- (*reader).desc. -/
namespace Go.Proofs.YtlaepkmnbbgbcaaGreatDoor
open Go.RowKit Go.Instr Go.Shelf
set_option linter.unusedVariables false
set_option linter.unusedSimpArgs false
attribute [local go_sem] Oper.semAt_some

/-- The cells of a descriptor of which k numbers are in. -/
def dk (l : List Int) (k : Nat) : Array Value :=
  let f : Nat → Value := fun i => .int .i64 (if i < k then l.getD i 0 else 0)
  #[f 0, .slice none 0 0, .slice none 0 0, f 1, f 2, .slice none 0 0, f 3, f 4, f 5, f 6, f 7]
def dOff (k : Nat) : Nat := [0, 3, 4, 6, 7, 8, 9, 10].getD k 0
theorem dk_step (l : List Int) (k : Nat) (hk : k < 8) : (dk l k).setIfInBounds (dOff k) (.int .i64 (l.getD k 0)) = dk l (k + 1) := by
  rcases k with _ | _ | _ | _ | _ | _ | _ | _ | k <;> first | rfl | (simp [dk, dOff]; done) | omega
def dPtr (b k : Nat) : Value := .pointer (some ⟨b, dOff k, none⟩)
theorem idx8 (b k : Nat) (hk : k < 8) (w : World) : (Instr.index 236 (.agg #[.pointer (some ⟨b, 0, none⟩), .pointer (some ⟨b, 3, none⟩), .pointer (some ⟨b, 4, none⟩), .pointer (some ⟨b, 6, none⟩), .pointer (some ⟨b, 7, none⟩), .pointer (some ⟨b, 8, none⟩), .pointer (some ⟨b, 9, none⟩), .pointer (some ⟨b, 10, none⟩)]) (.int .i64 k)).run Tryz.prog w = .ok (.pointer (some ⟨b, dOff k, none⟩)) w := by
  rcases k with _ | _ | _ | _ | _ | _ | _ | _ | k <;> first | omega | kernel_rfl
theorem own_kept {w w' : World} {base : Nat} {e : TypeId} {size n : Nat} {v : Value} {xs : List Value} (h : w.ownsRow base e size v n xs) (hx : Ex w w') : w'.ownsRow base e size v n xs := by
  refine ⟨h.1, ?_⟩
  rcases h.2 with h2 | ⟨g, cap, cur, h1, h2, h3, r⟩
  · exact .inl h2
  · exact .inr ⟨g, cap, cur, h1, h2, hx.obj h3 id, r⟩
theorem info_deC : (Tryz.prog.info? 50).map (fun i => (i.zero, i.size, i.bytes)) = some (some (.agg #[.int .i64 0, .slice none 0 0, .slice none 0 0, .int .i64 0, .int .i64 0, .slice none 0 0, .int .i64 0, .int .i64 0, .int .i64 0, .int .i64 0, .int .i64 0]), 11, 136) := by kernel_rfl
theorem own_type {w : World} {base : Nat} {e : TypeId} {size n : Nat} {v : Value} {xs : List Value} (h : w.ownsRow base e size v n xs) {k : Nat} (hk : v.ownBlock = some k) : ∃ cur, w.heap[k]? = some (.cells cur e (0, 0)) := by
  rcases h.2 with ⟨rfl, _⟩ | ⟨g, cap, cur, rfl, h2, h3, r⟩
  · cases hk
  · injection hk with hk; subst hk; exact ⟨cur, h3⟩
/-- The reader's block. -/
abbrev RdrBlk (w : World) (br : Nat) (dv lv tv rv iv gv ov av : Value) : Prop := Blk w br #[dv, lv, tv, rv, iv, gv, ov, av] 114
set_option maxRecDepth 100000 in
set_option maxHeartbeats 4000000 in
theorem desc_any {w : World} {br : Nat} {dv lv tv rv iv gv ov av : Value} (hB : RdrBlk w br dv lv tv rv iv gv ov av) {ad : Addr} {c : Nat} {l : List Int} {n : Nat} (h : RdL encI w (.slice (some ad) l.length c) l) (hlen : l.length = 9 + 2 * n) (hbig : n ≤ 1000000) (hcap : l.length ≤ c) (h8 : l.getD 8 0 = n)
    {base m : Nat} {cs : List Value} (ho : w.ownsRow base 50 11 dv m cs) (hbase : base ≤ w.heap.size) (hm : m ≤ 1000000) :
    Calls Tryz.prog 148 #[.pointer (some ⟨br, 0, none⟩), .slice (some ad) l.length c] w fun e w' => e = .returned (.tuple #[]) ∧ ∃ dv', RdrBlk w' br dv' lv tv rv iv gv ov av ∧ Keeps (fun k => k = br ∨ dv.ownBlock = some k) w w' := by
  obtain ⟨W1, hW1⟩ : ∃ W1, w.alloc (.cells #[.int .i64 0, .slice none 0 0, .slice none 0 0, .int .i64 0, .int .i64 0, .slice none 0 0, .int .i64 0, .int .i64 0, .int .i64 0, .int .i64 0, .int .i64 0] 50) = W1 := ⟨_, rfl⟩
  obtain ⟨bd, hbd⟩ : ∃ bd, w.heap.size = bd := ⟨_, rfl⟩
  have hX1 : Ex w W1 := by rw [← hW1]; exact (Keeps.refl _ w).alloc _
  have hB1 : Blk W1 bd (dk l 0) 50 := by rw [← hW1, ← hbd]; exact Blk.new w _ _
  have z8 : w.cell? ⟨ad.block, ad.off + 8, none⟩ = some (.int .i64 n) := by
    have := h.int_at (k := 8) (by omega)
    rw [h8] at this; exact this
  have hi8 := fun k hk w => idx8 bd k hk w
  have g1 : ((9 : Int) ≤ l.length) := by omega
  have g2 : ((n : Int) ≤ l.length) := by omega
  have g3 : ((l.length : Int) = 9 + 2 * n) := by omega
  have H := Lib.hid h; have HB := Lib.hid hB; have HW1 := Lib.hid hW1; have Hbd := Lib.hid hbd; have HX1 := Lib.hid hX1; have HB1 := Lib.hid hB1; have HI8 := Lib.hid hi8; have HO := Lib.hid ho; have H8 := Lib.hid h8; have HLen := Lib.hid hlen
  clear h hB hW1 hbd hX1 hB1 hi8 ho h8 hlen
  go_enter Tryz.func148, Tryz.ntmps148
  go_wp2_with (go_at_call 111; refine want_true.mono ?_)
  rintro e w ⟨rfl, rfl⟩
  go_upto_region 2 with fail
  rw [HW1.out]
  try rw [Hbd.out]
  go_wp2_with fail
  go_loopw [45] (fun s wr => ∃ k : Nat, k ≤ 8 ∧ s = .int .i64 k ∧ Hid (Ex w wr) ∧ Hid (Blk wr bd (dk l k) 50)) (fun s wr => 8 - (intOf s).toNat)
  case atStart => exact ⟨0, by omega, rfl, HX1, HB1⟩
  case round =>
    obtain ⟨k, hk, rfl, HX, HD⟩ := hrel
    by_cases hlt : k < 8
    case pos =>
      have z := (H.out.ext HX.out).int_at (k := k) (by have := HLen.out; omega)
      have hidx := HI8.out k hlt
      have hst : wr.frozen? ⟨bd, dOff k, none⟩ = false := HD.out.frozen _
      have hci : ∃ v, wr.cell? ⟨bd, dOff k, none⟩ = some v := by
        rw [HD.out.cell]
        have : dOff k < (dk l k).size := by
          show dOff k < 11
          rcases k with _ | _ | _ | _ | _ | _ | _ | _ | k <;> first | omega | decide
        exact ⟨_, Array.getElem?_eq_getElem this⟩
      obtain ⟨v0, hcv⟩ := hci
      have hlt' : ((k : Int) < 8) := by omega
      go_wp2_with fail
      have hg : l[k]?.getD 0 = l.getD k 0 := (List.getD_eq_getElem?_getD).symm
      rw [hg]
      refine ⟨⟨k + 1, by omega, by go_num, Lib.hid (HX.out.setCell (.inr (by rw [Hbd.out]; exact Nat.le_refl _)) _), Lib.hid ?_⟩, ?_⟩
      · rw [← dk_step l k hlt]; exact HD.out.set _ _
      · simp [intOf]; omega
    case neg =>
      have : k = 8 := by omega
      subst this
      have z9 : wr.cell? ⟨ad.block, ad.off + 8, none⟩ = some (.int .i64 n) := ((World.cell?_of_block (a := ⟨ad.block, ad.off + 8, none⟩) (HX.out.block ad.block (World.block_lt_of_cell? w ⟨ad.block, ad.off + 8, none⟩ z8) id)).trans z8)
      have hc1 : ((9 : Int) + 2 * n ≤ c) := by have := HLen.out; omega
      go_upto_region 8 with fail
      have HDf := fun i => HD.out.frozen i
      have d1 : wr.cell? ⟨bd, 1, none⟩ = some (.slice none 0 0) := (HD.out.cell 1).trans rfl
      have d2 : wr.cell? ⟨bd, 2, none⟩ = some (.slice none 0 0) := (HD.out.cell 2).trans rfl
      have f1 : wr.frozen? ⟨bd, 1, none⟩ = false := HD.out.frozen _
      have f2 : wr.frozen? ⟨bd, 2, none⟩ = false := HD.out.frozen _
      clear HDf
      obtain ⟨W4, hW4⟩ : ∃ W4, wr.drew = W4 := ⟨_, rfl⟩
      have hB4 : Blk W4 bd (dk l 8) 50 := by rw [← hW4]; exact HD.out.drew
      have hX4 : Ex w W4 := by rw [← hW4]; exact HX.out.drew
      have d1 : W4.cell? ⟨bd, 1, none⟩ = some (.slice none 0 0) := (hB4.cell 1).trans rfl
      have f1 : W4.frozen? ⟨bd, 1, none⟩ = false := hB4.frozen _
      have hW4 := hW4
      refine region_S_plain (n := 9) (fun _ => True) 100 (by kernel_rfl) ?_
      rw [hW4]
      clear hW4
      have e1 : IntKind.i64.wrap (9 + (n : Int)) = 9 + n := by simp [IntKind.wrap_i64]; omega
      have e2 : max (9 + (n : Int)) 0 = 9 + n := by omega
      have e3 : (0 : Int) ≤ 9 + n := by omega
      have e4 : (9 : Int) ≤ 9 + n := by omega
      have e5 : (9 + (n : Int)) ≤ c := by omega
      have e6 : (9 + (n : Int)) ≤ l.length := by omega
      have e7 : (9 + (n : Int)).toNat = 9 + n := by omega
      have e8 : (n : Int) ≤ 2 * n := by omega
      refine anyS_quiet (a2 := ?a0) 0 rfl rfl rfl (by kernel_rfl) (by kernel_rfl) (by kernel_rfl) (by kernel_rfl) (by kernel_rfl) (by kernel_rfl) (fun _ _ _ _ h => h) trivial ?h0 ?k0
      case h0 => intro W hW K hK; go_simp; exact hK
      refine anyS_quiet (a2 := ?a1) 1 rfl rfl rfl (by kernel_rfl) (by kernel_rfl) (by kernel_rfl) (by kernel_rfl) (by kernel_rfl) (by kernel_rfl) (fun _ _ _ _ h => h) trivial ?h1 ?k1
      case h1 => intro W hW K hK; go_simp; exact hK
      refine anyS_quiet (a2 := ?a2) 2 rfl rfl rfl (by kernel_rfl) (by kernel_rfl) (by kernel_rfl) (by kernel_rfl) (by kernel_rfl) (by kernel_rfl) (fun _ _ _ _ h => h) trivial ?h2 ?k2
      case h2 => intro W hW K hK; go_simp; exact hK
      refine anyS_quiet (a2 := ?a3) 3 rfl rfl rfl (by kernel_rfl) (by kernel_rfl) (by kernel_rfl) (by kernel_rfl) (by kernel_rfl) (by kernel_rfl) (fun _ _ _ _ h => h) trivial ?h3 ?k3
      case h3 => intro W hW K hK; go_simp; exact hK
      refine anyS_quiet (a2 := ?a4) 4 rfl rfl rfl (by kernel_rfl) (by kernel_rfl) (by kernel_rfl) (by kernel_rfl) (by kernel_rfl) (by kernel_rfl) (fun _ _ _ _ h => h) trivial ?h4 ?k4
      case h4 => intro W hW K hK; go_simp; exact hK
      refine anyS_quiet (a2 := ?a5) 5 rfl rfl rfl (by kernel_rfl) (by kernel_rfl) (by kernel_rfl) (by kernel_rfl) (by kernel_rfl) (by kernel_rfl) (fun _ _ _ _ h => h) trivial ?h5 ?k5
      case h5 => intro W hW K hK; go_simp; exact hK
      refine anyS_quiet (a2 := ?a6) 6 rfl rfl rfl (by kernel_rfl) (by kernel_rfl) (by kernel_rfl) (by kernel_rfl) (by kernel_rfl) (by kernel_rfl) (fun _ _ _ _ h => h) trivial ?h6 ?k6
      case h6 => intro W hW K hK; go_simp; exact hK
      refine anyS_quiet (a2 := ?a7) 7 rfl rfl rfl (by kernel_rfl) (by kernel_rfl) (by kernel_rfl) (by kernel_rfl) (by kernel_rfl) (by kernel_rfl) (fun _ _ _ _ h => h) trivial ?h7 ?k7
      case h7 => intro W hW K hK; go_simp; exact hK
      refine anyS_quiet (a2 := ?a8) 8 rfl rfl rfl (by kernel_rfl) (by kernel_rfl) (by kernel_rfl) (by kernel_rfl) (by kernel_rfl) (by kernel_rfl) (fun _ _ _ _ h => h) trivial ?h8 ?k8
      case h8 => intro W hW K hK; go_simp; exact hK
      refine anyS_quiet (a2 := ?a9) 9 rfl rfl rfl (by kernel_rfl) (by kernel_rfl) (by kernel_rfl) (by kernel_rfl) (by kernel_rfl) (by kernel_rfl) (fun _ _ _ _ h => h) trivial ?h9 ?k9
      case h9 => intro W hW K hK; go_simp; exact hK
      obtain ⟨A1, hA1⟩ : ∃ A1, (if n = 0 then some ad else some ⟨ad.block, ad.off + 9, none⟩) = A1 := ⟨_, rfl⟩
      obtain ⟨A2, hA2⟩ : ∃ A2, (if c = 9 + n then some ad else some (ad.add (9 + n))) = A2 := ⟨_, rfl⟩
      rw [hA1, hA2]
      obtain ⟨c2, hc2⟩ : ∃ c2, c - (9 + n) = c2 := ⟨_, rfl⟩
      obtain ⟨n2, hn2⟩ : ∃ n2, l.length - (9 + n) = n2 := ⟨_, rfl⟩
      rw [hc2, hn2]
      obtain ⟨W5, hW5⟩ : ∃ W5, W4.setCell ⟨bd, 1, none⟩ (.slice A1 n n) = W5 := ⟨_, rfl⟩
      obtain ⟨W6, hW6⟩ : ∃ W6, W5.setCell ⟨bd, 2, none⟩ (.slice A2 n2 c2) = W6 := ⟨_, rfl⟩
      have hB5 : Blk W5 bd ((dk l 8).setIfInBounds 1 (.slice A1 n n)) 50 := by rw [← hW5]; exact hB4.set _ _
      have hB6 : Blk W6 bd (((dk l 8).setIfInBounds 1 (.slice A1 n n)).setIfInBounds 2 (.slice A2 n2 c2)) 50 := by rw [← hW6]; exact hB5.set _ _
      have hX6 : Ex w W6 := by rw [← hW6, ← hW5]; exact (hX4.setCell (.inr (by rw [Hbd.out]; exact Nat.le_refl _)) _).setCell (.inr (by rw [Hbd.out]; exact Nat.le_refl _)) _
      have d2 : W5.cell? ⟨bd, 2, none⟩ = some (.slice none 0 0) := (hB5.cell 2).trans rfl
      have f2 : W5.frozen? ⟨bd, 2, none⟩ = false := hB5.frozen _
      have HB6 := Lib.hid hB6; have HX6 := Lib.hid hX6; have HW6 := Lib.hid hW6; have HW5 := Lib.hid hW5
      clear hB4 hX4 hB5 hB6 hX6 hW6 hW5 hA1 hA2 hc2 hn2 e1 e2 e3 e4 e5 e6 e7 e8
      refine anyS_only 10 rfl (by kernel_rfl) ?_
      gi_wp2
      refine And.intro (.inr trivial) ?_
      refine anyS_only 11 rfl (by kernel_rfl) ?_
      gi_wp2
      rw [HW5.out]
      refine And.intro (.inr trivial) ?_
      refine anyS_only 12 rfl (by kernel_rfl) ?_
      gi_wp2
      refine And.intro (.inr trivial) ?_
      refine anyS_only 13 rfl (by kernel_rfl) ?_
      gi_wp2
      rw [HW6.out]
      refine And.intro (.inr trivial) ?_
      refine anyS_done (by kernel_rfl) ?_ _
      go_wp2_with fail
      obtain ⟨W7, hW7⟩ : ∃ W7, W6.drew = W7 := ⟨_, rfl⟩
      have hB7 : Blk W7 bd #[.int .i64 (l.getD 0 0), .slice A1 n n, .slice A2 n2 c2, .int .i64 (l.getD 1 0), .int .i64 (l.getD 2 0), .slice none 0 0, .int .i64 (l.getD 3 0), .int .i64 (l.getD 4 0), .int .i64 (l.getD 5 0), .int .i64 (l.getD 6 0), .int .i64 (l.getD 7 0)] 50 := by rw [← hW7]; exact HB6.out.drew
      have hX7 : Ex w W7 := by rw [← hW7]; exact HX6.out.drew
      have hR7 : RdrBlk W7 br dv lv tv rv iv gv ov av := hX7.blk HB.out id
      have hO7 : W7.ownsRow base 50 11 dv m cs := own_kept HO.out hX7
      obtain ⟨b8, hb8⟩ : ∃ b8, W7.heap.size = b8 := ⟨_, rfl⟩
      generalize l.getD 0 0 = l0 at hB7
      generalize l.getD 1 0 = l1 at hB7
      generalize l.getD 2 0 = l2 at hB7
      generalize l.getD 3 0 = l3 at hB7
      generalize l.getD 4 0 = l4 at hB7
      generalize l.getD 5 0 = l5 at hB7
      generalize l.getD 6 0 = l6 at hB7
      generalize l.getD 7 0 = l7 at hB7
      obtain ⟨av1, ac1, hdv⟩ := own_slice hO7
      subst hdv
      obtain ⟨W8, hW8⟩ : ∃ W8, W7.alloc (.cells #[.int .i64 l0, .slice A1 n n, .slice A2 n2 c2, .int .i64 l1, .int .i64 l2, .slice none 0 0, .int .i64 l3, .int .i64 l4, .int .i64 l5, .int .i64 l6, .int .i64 l7] 50) = W8 := ⟨_, rfl⟩
      have hX8 : Ex W7 W8 := by rw [← hW8]; exact (Keeps.refl _ W7).alloc _
      have hs8 : W8.heap.size = b8 + 1 := by rw [← hW8, World.size_alloc, hb8]
      have hO8 : W8.ownsRow base 50 11 (.slice av1 m ac1) m cs := own_kept hO7 hX8
      have hnew : ∀ (j : Nat) u, ([.int .i64 l0, .slice A1 n n, .slice A2 n2 c2, .int .i64 l1, .int .i64 l2, .slice none 0 0, .int .i64 l3, .int .i64 l4, .int .i64 l5, .int .i64 l6, .int .i64 l7] : List Value)[j]? = some u → W8.cell? ((⟨b8, 0, none⟩ : Addr).add j) = some u := by
        rw [← hW8, ← hb8]; exact cells_new W7 _ _
      have HSof : ∀ V, RdrBlk V br (.slice av1 m ac1) lv tv rv iv gv ov av → Blk V bd #[.int .i64 l0, .slice A1 n n, .slice A2 n2 c2, .int .i64 l1, .int .i64 l2, .slice none 0 0, .int .i64 l3, .int .i64 l4, .int .i64 l5, .int .i64 l6, .int .i64 l7] 50 → Hid (V.cell? ⟨br, 0, none⟩ = some (.slice av1 m ac1) ∧ V.cell? ⟨bd, 0, none⟩ = some (.int .i64 l0) ∧ V.cell? ⟨bd, 1, none⟩ = some (.slice A1 n n) ∧ V.cell? ⟨bd, 2, none⟩ = some (.slice A2 n2 c2) ∧ V.cell? ⟨bd, 3, none⟩ = some (.int .i64 l1) ∧ V.cell? ⟨bd, 4, none⟩ = some (.int .i64 l2) ∧ V.cell? ⟨bd, 5, none⟩ = some (.slice none 0 0) ∧ V.cell? ⟨bd, 6, none⟩ = some (.int .i64 l3) ∧ V.cell? ⟨bd, 7, none⟩ = some (.int .i64 l4) ∧ V.cell? ⟨bd, 8, none⟩ = some (.int .i64 l5) ∧ V.cell? ⟨bd, 9, none⟩ = some (.int .i64 l6) ∧ V.cell? ⟨bd, 10, none⟩ = some (.int .i64 l7)) := fun V hR7 hB7 =>
        Lib.hid ⟨(hR7.cell 0).trans rfl, (hB7.cell 0).trans rfl, (hB7.cell 1).trans rfl, (hB7.cell 2).trans rfl, (hB7.cell 3).trans rfl, (hB7.cell 4).trans rfl, (hB7.cell 5).trans rfl, (hB7.cell 6).trans rfl, (hB7.cell 7).trans rfl, (hB7.cell 8).trans rfl, (hB7.cell 9).trans rfl, (hB7.cell 10).trans rfl⟩
      have HS := HSof W7 hR7 hB7
      have HB7 := Lib.hid hB7; have HX7 := Lib.hid hX7; have HR7 := Lib.hid hR7; have HO8 := Lib.hid hO8; have HW8 := Lib.hid hW8; have HX8 := Lib.hid hX8; have Hs8 := Lib.hid hs8; have HNew := Lib.hid hnew; have Hb8 := Lib.hid hb8
      clear hB7 hX7 hR7 hO7 hO8 hW8 hX8 hs8 hnew hb8 d1 f1 d2 f2 z8 z9 hc1
      refine region_S_plain (n := 9) (fun V => V.cell? ⟨br, 0, none⟩ = some (.slice av1 m ac1) ∧ V.cell? ⟨bd, 0, none⟩ = some (.int .i64 l0) ∧ V.cell? ⟨bd, 1, none⟩ = some (.slice A1 n n) ∧ V.cell? ⟨bd, 2, none⟩ = some (.slice A2 n2 c2) ∧ V.cell? ⟨bd, 3, none⟩ = some (.int .i64 l1) ∧ V.cell? ⟨bd, 4, none⟩ = some (.int .i64 l2) ∧ V.cell? ⟨bd, 5, none⟩ = some (.slice none 0 0) ∧ V.cell? ⟨bd, 6, none⟩ = some (.int .i64 l3) ∧ V.cell? ⟨bd, 7, none⟩ = some (.int .i64 l4) ∧ V.cell? ⟨bd, 8, none⟩ = some (.int .i64 l5) ∧ V.cell? ⟨bd, 9, none⟩ = some (.int .i64 l6) ∧ V.cell? ⟨bd, 10, none⟩ = some (.int .i64 l7)) 12 (by kernel_rfl) ?_
      rw [hW7]
      clear hW7
      refine anyS_quiet (a2 := ?ab_0) 0 rfl rfl rfl (by kernel_rfl) (by kernel_rfl) (by kernel_rfl) (by kernel_rfl) (by kernel_rfl) (by kernel_rfl) (fun _ _ _ _ h => h) HS.out ?hb_0 ?kb_0
      case hb_0 => intro W hW K hK; obtain ⟨q0, q1, q2, q3, q4, q5, q6, q7, q8, q9, q10, q11⟩ := hW; go_simp; exact hK
      refine anyS_quiet (a2 := ?ab_1) 1 rfl rfl rfl (by kernel_rfl) (by kernel_rfl) (by kernel_rfl) (by kernel_rfl) (by kernel_rfl) (by kernel_rfl) (fun _ _ _ _ h => h) HS.out ?hb_1 ?kb_1
      case hb_1 => intro W hW K hK; obtain ⟨q0, q1, q2, q3, q4, q5, q6, q7, q8, q9, q10, q11⟩ := hW; go_simp; exact hK
      refine anyS_quiet (a2 := ?ab_2) 2 rfl rfl rfl (by kernel_rfl) (by kernel_rfl) (by kernel_rfl) (by kernel_rfl) (by kernel_rfl) (by kernel_rfl) (fun _ _ _ _ h => h) HS.out ?hb_2 ?kb_2
      case hb_2 => intro W hW K hK; obtain ⟨q0, q1, q2, q3, q4, q5, q6, q7, q8, q9, q10, q11⟩ := hW; go_simp; exact hK
      refine anyS_quiet (a2 := ?ab_3) 3 rfl rfl rfl (by kernel_rfl) (by kernel_rfl) (by kernel_rfl) (by kernel_rfl) (by kernel_rfl) (by kernel_rfl) (fun _ _ _ _ h => h) HS.out ?hb_3 ?kb_3
      case hb_3 => intro W hW K hK; obtain ⟨q0, q1, q2, q3, q4, q5, q6, q7, q8, q9, q10, q11⟩ := hW; go_simp; exact hK
      refine anyS_quiet (a2 := ?ab_4) 4 rfl rfl rfl (by kernel_rfl) (by kernel_rfl) (by kernel_rfl) (by kernel_rfl) (by kernel_rfl) (by kernel_rfl) (fun _ _ _ _ h => h) HS.out ?hb_4 ?kb_4
      case hb_4 => intro W hW K hK; obtain ⟨q0, q1, q2, q3, q4, q5, q6, q7, q8, q9, q10, q11⟩ := hW; go_simp; exact hK
      refine anyS_quiet (a2 := ?ab_5) 5 rfl rfl rfl (by kernel_rfl) (by kernel_rfl) (by kernel_rfl) (by kernel_rfl) (by kernel_rfl) (by kernel_rfl) (fun _ _ _ _ h => h) HS.out ?hb_5 ?kb_5
      case hb_5 => intro W hW K hK; obtain ⟨q0, q1, q2, q3, q4, q5, q6, q7, q8, q9, q10, q11⟩ := hW; go_simp; exact hK
      refine anyS_quiet (a2 := ?ab_6) 6 rfl rfl rfl (by kernel_rfl) (by kernel_rfl) (by kernel_rfl) (by kernel_rfl) (by kernel_rfl) (by kernel_rfl) (fun _ _ _ _ h => h) HS.out ?hb_6 ?kb_6
      case hb_6 => intro W hW K hK; obtain ⟨q0, q1, q2, q3, q4, q5, q6, q7, q8, q9, q10, q11⟩ := hW; go_simp; exact hK
      have HS8 := HSof _ (HX8.out.blk HR7.out id) (HX8.out.blk HB7.out id)
      clear HS
      refine anyS_only 7 rfl (by kernel_rfl) ?_
      gi_wp2
      rw [HW8.out]
      try rw [Hb8.out]
      refine And.intro (.inr HS8.out) ?_
      refine anyS_only 8 rfl (by kernel_rfl) ?_
      obtain ⟨i0, hi, hz0, hz1, hz2⟩ := info_split info_deC
      refine wpListIn_append_fresh rfl _ _ 22 rfl base 50 i0 _ 11 136 Tryz.underlying22 hi hz0 hz1 hz2 rfl (by decide) (.slice av1 m ac1) m _ rfl HO8.out ⟨b8, 0, none⟩ 1 1 _ rfl rfl HNew.out ?c2 ?c3 ?c4 ?c5 ?_
      case c2 => intro u hu; simp only [List.mem_cons, List.not_mem_nil, or_false] at hu; rcases hu with rfl | rfl | rfl | rfl | rfl | rfl | rfl | rfl | rfl | rfl | rfl <;> rfl
      case c3 => unfold maxLen; omega
      case c4 => omega
      case c5 => have := HX8.out.size; have := HX7.out.size; omega
      intro v9 W9 hown hgrow _ hfr
      have hne : ∀ k, (Value.slice av1 m ac1).ownBlock = some k → k < b8 ∧ k ≠ br ∧ k ≠ bd := by
        intro k hk
        have h1 := HO.out.lt k hk
        have h2 := HX7.out.size
        refine ⟨by rw [← Hb8.out]; omega, ?_, by rw [← Hbd.out]; omega⟩
        rintro rfl
        obtain ⟨cur, hc⟩ := own_type HO.out hk
        have := HB.out
        unfold RdrBlk Blk at this
        rw [this] at hc; injection hc with hc; injection hc with _ hc _; revert hc; decide
      have hR8 : RdrBlk W8 br (.slice av1 m ac1) lv tv rv iv gv ov av := HX8.out.blk HR7.out id
      have hB8 := HX8.out.blk HB7.out id
      have hR9 : RdrBlk W9 br (.slice av1 m ac1) lv tv rv iv gv ov av := by
        unfold RdrBlk Blk; rw [hgrow.block br hR8.lt (fun e => (hne br e.symm).2.1 rfl)]; exact hR8
      have hB9 := hB8
      unfold Blk at hB9
      rw [← hgrow.block bd hB8.lt (fun e => (hne bd e.symm).2.2 rfl)] at hB9
      have HS9 := HSof _ hR9 hB9
      have hr9 : W9.cell? ⟨br, 0, none⟩ = some (.slice av1 m ac1) := HS9.out.1
      have hf9 : W9.frozen? ⟨br, 0, none⟩ = false := hR9.frozen 0
      obtain ⟨a9, c9, rfl⟩ := own_slice hown
      have hR10 := hR9.set 0 (.slice a9 (m + 1) c9)
      have hK10 : Keeps (fun k => k = br ∨ (Value.slice av1 m ac1).ownBlock = some k) w (W9.setCell ⟨br, 0, none⟩ (.slice a9 (m + 1) c9)) := by
        refine Keeps.setCell (Keeps.grown (((HX7.out.trans HX8.out).mono fun _ _ h => h.elim)) hgrow fun k hk => .inl (.inr hk)) (.inl (.inl rfl)) _
      have HR10 := Lib.hid hR10; have HK10 := Lib.hid hK10
      clear hown hgrow hfr hne hR8 hB8 hR9 hB9 hR10 hK10
      refine And.intro (.inr HS9.out) ?_
      refine anyS_only 9 rfl (by kernel_rfl) ?_
      gi_wp2
      refine And.intro (.inr HS9.out) ?_
      refine anyS_only 10 rfl (by kernel_rfl) ?_
      gi_wp2
      refine And.intro (.inr HS9.out) ?_
      refine anyS_only 11 rfl (by kernel_rfl) ?_
      gi_wp2
      refine And.intro (.inr HS9.out) ?_
      refine anyS_only 12 rfl (by kernel_rfl) ?_
      gi_wp2
      refine anyS_done (by kernel_rfl) ?_ _
      go_wp2_with fail
      go_end0
      exact ⟨rfl, _, HR10.out, HK10.out⟩
end Go.Proofs.YtlaepkmnbbgbcaaGreatDoor
/- (*reader).line, where the line is a text. -/
namespace Go.Proofs.YtlaepkmnbbgbcaaGreatDoor
open Go.RowKit Go.Instr Go.Shelf
set_option linter.unusedVariables false
set_option linter.unusedSimpArgs false
attribute [local go_sem] Oper.semAt_some

/-- internal/bytealg.MaxLen holds an int. -/
def Mx (w : World) : Prop := ∃ m, w.cell? ⟨0, 0, none⟩ = some (.int .i64 m)
theorem ex_cell {w w' : World} (hx : Ex w w') {a : Addr} {v : Value} (h : w.cell? a = some v) : w'.cell? a = some v :=
  (World.cell?_of_block (hx.block a.block (World.block_lt_of_cell? w a h) id)).trans h
theorem Mx.ext {w w' : World} (h : Mx w) (hx : Ex w w') : Mx w' := by
  obtain ⟨m, h⟩ := h
  exact ⟨m, ex_cell hx h⟩
theorem cut_any {w : World} (hm : Mx w) {s sep a b : ByteArray} {f : Bool} (hs : s.size < 4294967281) (h : Lib.cut s.data.toList sep.data.toList = (a.data.toList, b.data.toList, f)) :
    Calls Tryz.prog 58 #[.string s, .string sep] w fun e w' => e = .returned (.tuple #[.string a, .string b, .bool f]) ∧ Ex w w' := by
  obtain ⟨m, hm⟩ := hm
  refine (Sd.strings_Cut s sep m w hs hm).mono ?_
  rintro e w' ⟨h1, n, rfl⟩
  refine ⟨?_, (Keeps.refl _ w).drewN n⟩
  rw [h1, h]
theorem own_far {w : World} {base : Nat} {e : TypeId} {size n : Nat} {v : Value} {xs : List Value} (h : w.ownsRow base e size v n xs) {a : Addr} (ha : ∀ k, v.ownBlock = some k → k ≠ a.block) (u : Value) : (w.setCell a u).ownsRow base e size v n xs := by
  refine ⟨h.1, ?_⟩
  rcases h.2 with h2 | ⟨g, cap, cur, h1, h2, h3, r⟩
  · exact .inl h2
  · refine .inr ⟨g, cap, cur, h1, h2, ?_, r⟩
    have h3' : Blk w g cur e := h3
    exact h3'.far (ha g (by rw [h1]; rfl)) u
theorem info_stC : (Tryz.prog.info? 9).map (fun i => (i.zero, i.size, i.bytes)) = some (some (.string ⟨#[]⟩), 1, 16) := by kernel_rfl
set_option maxRecDepth 100000 in
set_option maxHeartbeats 4000000 in
theorem textLine_any {w : World} (hm : Mx w) {br : Nat} {dv lv tv rv iv gv ov av : Value} (hB : RdrBlk w br dv lv tv rv iv gv ov av) {s rest : ByteArray} {f : Bool} (hsz : s.size ≤ 1000000000) (hs7 : 7 ≤ s.size) (hr : 2 ≤ rest.size) (hrs : rest.size ≤ 1000000000)
    (hcut : Lib.cut s.data.toList [32] = ([84, 69, 88, 84], rest.data.toList, f)) (hpre : Lib.hasPrefix s.data.toList [84, 69, 88, 84, 32, 34] = true) (hsuf : Lib.hasSuffix s.data.toList [34] = true)
    {base m : Nat} {cs : List Value} (ho : w.ownsRow base 9 1 tv m cs) (hbase : base ≤ w.heap.size) (hm1 : m ≤ 1000000) :
    Calls Tryz.prog 110 #[.pointer (some ⟨br, 0, none⟩), .string s] w fun e w' => e = .returned (.int .i64 2) ∧ ∃ tv', RdrBlk w' br dv lv tv' rv iv gv ov av ∧ w'.ownsRow base 9 1 tv' (m + 1) (cs ++ [.string (rest.extract 1 (rest.size - 1))]) ∧ Keeps (fun k => k = br ∨ tv.ownBlock = some k) w w' := by
  have hc := cut_any hm (s := s) (sep := ⟨#[32]⟩) (a := ⟨#[84, 69, 88, 84]⟩) (b := rest) (f := f) (by omega) hcut
  have hp := fun W => Sd.strings_HasPrefix s ⟨#[84, 69, 88, 84, 32, 34]⟩ W
  have hq := fun W => Sd.strings_HasSuffix s ⟨#[34]⟩ W (by omega)
  rw [hpre] at hp
  rw [hsuf] at hq
  have g1 : ((7 : Int) ≤ s.size) := by omega
  have HC := Lib.hid hc; have HP := Lib.hid hp; have HQ := Lib.hid hq; have HB := Lib.hid hB; have HO := Lib.hid ho
  clear hc hp hq hB ho hm hcut hpre hsuf
  go_enter Tryz.func110, Tryz.ntmps110
  go_wp2_with (go_at_call 58; refine HC.out.mono ?_)
  rintro e w1 ⟨rfl, hx1⟩
  have HX1 := Lib.hid hx1
  clear hx1
  go_wp2_with (go_at_call 143; refine (HP.out _).mono ?_)
  rintro e w1 ⟨rfl, rfl⟩
  go_wp2_with (go_at_call 144; refine (HQ.out _).mono ?_)
  rintro e w1 ⟨rfl, rfl⟩
  go_wp2_with (go_at_call 111; refine want_true.mono ?_)
  rintro e w1 ⟨rfl, rfl⟩
  go_upto_region 4 with fail
  obtain ⟨W7, hW7⟩ : ∃ W7, w1.drew = W7 := ⟨_, rfl⟩
  have hX7 : Ex w W7 := by rw [← hW7]; exact HX1.out.drew
  have hR7 : RdrBlk W7 br dv lv tv rv iv gv ov av := hX7.blk HB.out id
  have hO7 : W7.ownsRow base 9 1 tv m cs := own_kept HO.out hX7
  obtain ⟨b8, hb8⟩ : ∃ b8, W7.heap.size = b8 := ⟨_, rfl⟩
  obtain ⟨av1, ac1, hdv⟩ := own_slice hO7
  subst hdv
  obtain ⟨W8, hW8⟩ : ∃ W8, W7.alloc (.cells #[.string (rest.extract 1 (rest.size - 1))] 9) = W8 := ⟨_, rfl⟩
  have hX8 : Ex W7 W8 := by rw [← hW8]; exact (Keeps.refl _ W7).alloc _
  have hO8 : W8.ownsRow base 9 1 (.slice av1 m ac1) m cs := own_kept hO7 hX8
  have hnew : ∀ (j : Nat) u, ([.string (rest.extract 1 (rest.size - 1))] : List Value)[j]? = some u → W8.cell? ((⟨b8, 0, none⟩ : Addr).add j) = some u := by
    rw [← hW8, ← hb8]; exact cells_new W7 _ _
  have HSof : ∀ V, RdrBlk V br dv lv (.slice av1 m ac1) rv iv gv ov av → Hid (V.cell? ⟨br, 2, none⟩ = some (.slice av1 m ac1)) := fun V hR7 => Lib.hid ((hR7.cell 2).trans rfl)
  have HS := HSof W7 hR7
  have HX7 := Lib.hid hX7; have HR7 := Lib.hid hR7; have HO8 := Lib.hid hO8; have HW8 := Lib.hid hW8; have HX8 := Lib.hid hX8; have HNew := Lib.hid hnew; have Hb8 := Lib.hid hb8
  clear hX7 hR7 hO7 hO8 hW8 hX8 hnew hb8
  refine region_S_plain (n := 9) (fun V => V.cell? ⟨br, 2, none⟩ = some (.slice av1 m ac1)) 16 (by kernel_rfl) ?_
  rw [hW7]
  clear hW7
  have e1 : IntKind.i64.wrap ((rest.size : Int) - 1) = rest.size - 1 := by simp [IntKind.wrap_i64]; omega
  have e2 : (0 : Int) ≤ rest.size - 1 := by omega
  have e3 : (1 : Int) ≤ rest.size - 1 := by omega
  have e4 : (rest.size : Int) - 1 ≤ rest.size := by omega
  have e5 : ((rest.size : Int) - 1).toNat = rest.size - 1 := by omega
  refine anyS_quiet (a2 := ?a0) 0 rfl rfl rfl (by kernel_rfl) (by kernel_rfl) (by kernel_rfl) (by kernel_rfl) (by kernel_rfl) (by kernel_rfl) (fun _ _ _ _ h => h) HS.out ?h0 ?k0
  case h0 => intro W hW K hK; obtain q0 := hW; go_simp; exact hK
  refine anyS_quiet (a2 := ?a1) 1 rfl rfl rfl (by kernel_rfl) (by kernel_rfl) (by kernel_rfl) (by kernel_rfl) (by kernel_rfl) (by kernel_rfl) (fun _ _ _ _ h => h) HS.out ?h1 ?k1
  case h1 => intro W hW K hK; obtain q0 := hW; go_simp; exact hK
  refine anyS_quiet (a2 := ?a2) 2 rfl rfl rfl (by kernel_rfl) (by kernel_rfl) (by kernel_rfl) (by kernel_rfl) (by kernel_rfl) (by kernel_rfl) (fun _ _ _ _ h => h) HS.out ?h2 ?k2
  case h2 => intro W hW K hK; obtain q0 := hW; go_simp; exact hK
  refine anyS_quiet (a2 := ?a3) 3 rfl rfl rfl (by kernel_rfl) (by kernel_rfl) (by kernel_rfl) (by kernel_rfl) (by kernel_rfl) (by kernel_rfl) (fun _ _ _ _ h => h) HS.out ?h3 ?k3
  case h3 => intro W hW K hK; obtain q0 := hW; go_simp; exact hK
  refine anyS_quiet (a2 := ?a4) 4 rfl rfl rfl (by kernel_rfl) (by kernel_rfl) (by kernel_rfl) (by kernel_rfl) (by kernel_rfl) (by kernel_rfl) (fun _ _ _ _ h => h) HS.out ?h4 ?k4
  case h4 => intro W hW K hK; obtain q0 := hW; go_simp; exact hK
  refine anyS_quiet (a2 := ?a5) 5 rfl rfl rfl (by kernel_rfl) (by kernel_rfl) (by kernel_rfl) (by kernel_rfl) (by kernel_rfl) (by kernel_rfl) (fun _ _ _ _ h => h) HS.out ?h5 ?k5
  case h5 => intro W hW K hK; obtain q0 := hW; go_simp; exact hK
  refine anyS_quiet (a2 := ?a6) 6 rfl rfl rfl (by kernel_rfl) (by kernel_rfl) (by kernel_rfl) (by kernel_rfl) (by kernel_rfl) (by kernel_rfl) (fun _ _ _ _ h => h) HS.out ?h6 ?k6
  case h6 => intro W hW K hK; obtain q0 := hW; go_simp; exact hK
  refine anyS_quiet (a2 := ?a7) 7 rfl rfl rfl (by kernel_rfl) (by kernel_rfl) (by kernel_rfl) (by kernel_rfl) (by kernel_rfl) (by kernel_rfl) (fun _ _ _ _ h => h) HS.out ?h7 ?k7
  case h7 => intro W hW K hK; obtain q0 := hW; go_simp; exact hK
  refine anyS_quiet (a2 := ?a8) 8 rfl rfl rfl (by kernel_rfl) (by kernel_rfl) (by kernel_rfl) (by kernel_rfl) (by kernel_rfl) (by kernel_rfl) (fun _ _ _ _ h => h) HS.out ?h8 ?k8
  case h8 => intro W hW K hK; obtain q0 := hW; go_simp; exact hK
  refine anyS_quiet (a2 := ?a9) 9 rfl rfl rfl (by kernel_rfl) (by kernel_rfl) (by kernel_rfl) (by kernel_rfl) (by kernel_rfl) (by kernel_rfl) (fun _ _ _ _ h => h) HS.out ?h9 ?k9
  case h9 => intro W hW K hK; obtain q0 := hW; go_simp; exact hK
  refine anyS_quiet (a2 := ?a10) 10 rfl rfl rfl (by kernel_rfl) (by kernel_rfl) (by kernel_rfl) (by kernel_rfl) (by kernel_rfl) (by kernel_rfl) (fun _ _ _ _ h => h) HS.out ?h10 ?k10
  case h10 => intro W hW K hK; obtain q0 := hW; go_simp; exact hK
  have HS8 := HSof _ (HX8.out.blk HR7.out id)
  clear HS
  refine anyS_only 11 rfl (by kernel_rfl) ?_
  gi_wp2
  rw [HW8.out]
  try rw [Hb8.out]
  refine And.intro (.inr HS8.out) ?_
  refine anyS_only 12 rfl (by kernel_rfl) ?_
  obtain ⟨i0, hi, hz0, hz1, hz2⟩ := info_split info_stC
  refine wpListIn_append_fresh rfl _ _ 24 rfl base 9 i0 _ 1 16 Tryz.underlying24 hi hz0 hz1 hz2 rfl (by decide) (.slice av1 m ac1) m _ rfl HO8.out ⟨b8, 0, none⟩ 1 1 _ rfl rfl HNew.out ?c2 ?c3 ?c4 ?c5 ?_
  case c2 => intro u hu; simp only [List.mem_cons, List.not_mem_nil, or_false] at hu; rcases hu with rfl; rfl
  case c3 => unfold maxLen; omega
  case c4 => omega
  case c5 => have := HX8.out.size; have := HX7.out.size; omega
  intro v9 W9 hown hgrow _ hfr
  have hne : ∀ k, (Value.slice av1 m ac1).ownBlock = some k → k ≠ br := by
    intro k hk
    rintro rfl
    obtain ⟨cur, hc⟩ := own_type HO.out hk
    have := HB.out
    unfold RdrBlk Blk at this
    rw [this] at hc; injection hc with hc; injection hc with _ hc _; revert hc; decide
  have hR8 : RdrBlk W8 br dv lv (.slice av1 m ac1) rv iv gv ov av := HX8.out.blk HR7.out id
  have hR9 : RdrBlk W9 br dv lv (.slice av1 m ac1) rv iv gv ov av := by
    unfold RdrBlk Blk; rw [hgrow.block br hR8.lt (fun e => hne br e.symm rfl)]; exact hR8
  have HS9 := HSof _ hR9
  have hr9 : W9.cell? ⟨br, 2, none⟩ = some (.slice av1 m ac1) := HS9.out
  have hf9 : W9.frozen? ⟨br, 2, none⟩ = false := hR9.frozen 2
  obtain ⟨a9, c9, rfl⟩ := own_slice hown
  have hR10 := hR9.set 2 (.slice a9 (m + 1) c9)
  have hK10 : Keeps (fun k => k = br ∨ (Value.slice av1 m ac1).ownBlock = some k) w (W9.setCell ⟨br, 2, none⟩ (.slice a9 (m + 1) c9)) := by
    refine Keeps.setCell (Keeps.grown (((HX7.out.trans HX8.out).mono fun _ _ h => h.elim)) hgrow fun k hk => .inl (.inr hk)) (.inl (.inl rfl)) _
  have hO10 : (W9.setCell ⟨br, 2, none⟩ (.slice a9 (m + 1) c9)).ownsRow base 9 1 (.slice a9 (m + 1) c9) (m + 1) (cs ++ [.string (rest.extract 1 (rest.size - 1))]) := by
    refine own_far hown (fun k hk => ?_) _
    show k ≠ br
    rintro rfl
    obtain ⟨cur, hc⟩ := own_type hown hk
    unfold RdrBlk Blk at hR9
    rw [hR9] at hc; injection hc with hc; injection hc with _ hc _; revert hc; decide
  have HR10 := Lib.hid hR10; have HK10 := Lib.hid hK10; have HO10 := Lib.hid hO10
  clear hown hgrow hfr hne hR8 hR9 hR10 hK10 hO10
  refine And.intro (.inr HS9.out) ?_
  refine anyS_only 13 rfl (by kernel_rfl) ?_
  gi_wp2
  refine And.intro (.inr HS9.out) ?_
  refine anyS_only 14 rfl (by kernel_rfl) ?_
  gi_wp2
  refine And.intro (.inr HS9.out) ?_
  refine anyS_only 15 rfl (by kernel_rfl) ?_
  gi_wp2
  refine And.intro (.inr HS9.out) ?_
  refine anyS_only 16 rfl (by kernel_rfl) ?_
  gi_wp2
  refine anyS_done (by kernel_rfl) ?_ _
  go_wp2_with fail
  go_ret
  exact ⟨rfl, _, HR10.out, HO10.out, HK10.out⟩
end Go.Proofs.YtlaepkmnbbgbcaaGreatDoor
/- (*reader).line, where the line is a descriptor. -/
namespace Go.Proofs.YtlaepkmnbbgbcaaGreatDoor
open Go.RowKit Go.Instr Go.Shelf
set_option linter.unusedVariables false
set_option linter.unusedSimpArgs false
attribute [local go_sem] Oper.semAt_some

theorem Blk.rdS1 {w : World} {b : Nat} {s0 : ByteArray} {ss : List ByteArray} (h : Blk w b ((s0 :: ss).map Value.string).toArray 9) : RdL encS w (.slice (some ⟨b, 1, none⟩) ss.length ss.length) ss := by
  refine ⟨some ⟨b, 1, none⟩, ss.length, rfl, Nat.le_refl _, fun e => (by cases e), ?_⟩
  intro ad had j z hz
  injection had with had; subst had
  have e1 : ss.flatMap encS = ss.map Value.string := by
    clear h hz
    induction ss with
    | nil => rfl
    | cons a r ih => rw [List.flatMap_cons, ih]; rfl
  rw [e1] at hz
  have e2 : (⟨b, 1, none⟩ : Addr).add j = ⟨b, j + 1, none⟩ := by
    unfold Addr.add
    split
    · rename_i h; subst h; rfl
    · rw [Nat.add_comm]
  rw [e2, h.cell]
  simpa using hz
set_option maxRecDepth 100000 in
set_option maxHeartbeats 4000000 in
theorem descLine_any {w : World} (hm : Mx w) (ht : Tab w) {br : Nat} {dv lv tv rv iv gv ov av : Value} (hB : RdrBlk w br dv lv tv rv iv gv ov av) {s rest s0 : ByteArray} {ss : List ByteArray} {l : List Int} {n : Nat} {f : Bool} (hsz : s.size ≤ 1000000000)
    (hcut : Lib.cut s.data.toList [32] = ([68, 69, 83, 67], rest.data.toList, f)) (hsp : Lib.splitB ⟨#[32]⟩ 0 (Lib.countB s ⟨#[32]⟩) s = s0 :: ss) (hct : Lib.countB s ⟨#[32]⟩ = ss.length)
    (hln : ss.length = l.length) (hnum : ∀ (k : Nat) (s : ByteArray) (n : Int), ss[k]? = some s → l[k]? = some n → Num s n) (hlen : l.length = 9 + 2 * n) (hbig : n ≤ 100000) (h8 : l.getD 8 0 = n)
    {base m : Nat} {cs : List Value} (ho : w.ownsRow base 50 11 dv m cs) (hbase : base ≤ w.heap.size) (hm1 : m ≤ 1000000) :
    Calls Tryz.prog 110 #[.pointer (some ⟨br, 0, none⟩), .string s] w fun e w' => e = .returned (.int .i64 0) ∧ ∃ dv', RdrBlk w' br dv' lv tv rv iv gv ov av ∧ Keeps (fun k => k = br ∨ dv.ownBlock = some k) w w' := by
  have hc := cut_any hm (s := s) (sep := ⟨#[32]⟩) (a := ⟨#[68, 69, 83, 67]⟩) (b := rest) (f := f) (by omega) hcut
  have hpl : ∀ W, Ex w W → Calls Tryz.prog 147 #[.string s, .string ⟨#[32]⟩] W fun e w' => ∃ b, e = .returned (.slice (some ⟨b, 0, none⟩) (ss.length + 1) (ss.length + 1)) ∧ RdL encS w' (.slice (some ⟨b, 1, none⟩) ss.length ss.length) ss ∧ Ex W w' := by
    intro W hx
    obtain ⟨m, hm⟩ := hm.ext hx
    refine (Sd.strings_Split s ⟨#[32]⟩ m W (by omega) hm (by decide)).mono ?_
    rintro e w' ⟨h1, h2⟩
    rw [hct] at h1
    rw [hsp] at h2
    refine ⟨_, h1, ?_, ?_⟩
    · rw [h2]; exact Blk.rdS1 (Blk.new W _ _)
    · rw [h2]; exact (Keeps.refl _ W).alloc _
  have HC := Lib.hid hc; have HPl := Lib.hid hpl; have HB := Lib.hid hB; have HO := Lib.hid ho; have HT := Lib.hid ht; have HNum := Lib.hid hnum; have HLn := Lib.hid hln; have HLen := Lib.hid hlen; have H8 := Lib.hid h8
  have HBase := Lib.hid hbase
  have hL : ss.length ≤ 1000000 := by omega
  have h1L : 1 ≤ ss.length := by omega
  have h0L : (ss.length = 0) = False := by simp; intro h; subst h; simp at h1L
  clear hc hpl hB ho hm hcut hsp hct ht hnum hln hlen h8 hbase
  go_enter Tryz.func110, Tryz.ntmps110
  go_wp2_with (go_at_call 58; refine HC.out.mono ?_)
  rintro e w1 ⟨rfl, hx1⟩
  have HX1 := Lib.hid hx1
  clear hx1
  go_wp2_with (go_at_call 147; refine (HPl.out _ HX1.out).mono ?_; rintro e w2 ⟨b2, rfl, hr2, hx2⟩; have HR2 := Lib.hid hr2; have HX2 := Lib.hid (HX1.out.trans hx2); clear hr2 hx2)
  refine (numbersOf_any (HT.out.ext HX2.out) HR2.out hL HLn.out HNum.out).mono ?_
  rintro e w3 ⟨v3, rfl, ho3, hx3⟩
  have hx3 := HX2.out.trans hx3
  rcases ho3.form with ⟨rfl, hnil⟩ | ⟨g, cap, rfl, -, -, hcap, -⟩
  · exfalso; have := HLen.out; rw [hnil, List.length_nil] at this; omega
  have hde := desc_any (hx3.blk HB.out id) ho3.rd HLen.out (by omega) hcap H8.out (own_kept HO.out hx3) (by have := HBase.out; have := hx3.size; omega) hm1
  have HDe := Lib.hid hde; have HX3 := Lib.hid hx3
  clear ho3 hde hx3
  go_wp2_with (go_at_call 148; refine HDe.out.mono ?_)
  rintro e w4 ⟨rfl, dv4, hr4, hk4⟩
  have HR4 := Lib.hid hr4; have HK4 := Lib.hid (Keeps.trans (HX3.out.mono fun _ _ h => h.elim) hk4)
  clear hr4 hk4
  go_wp2_with fail
  go_ret
  exact ⟨rfl, _, HR4.out, HK4.out⟩
end Go.Proofs.YtlaepkmnbbgbcaaGreatDoor
