/- all: the iterator over the blocks of a heap. Steps that write blocks of some types alone. -/
import Derived.Test.YtikigppfnhilhaaGPD3
import Derived.Test.YtikigppfnhilhaaGPD4
import Derived.RangeFuncNested
import Derived.RangeFuncBound
import Derived.RangeFuncCalls
import Derived.RangeFuncLeaves
import Derived.Shelf.Abstract
import Derived.Shelf.RegionOpen
import Derived.OwnWalkIn
import Derived.TacticsInMore
import Derived.LoopNIn
import Derived.LoopIn
import Derived.BigRegionIn
/- all: the iterator over the blocks of a heap. -/
namespace Go.Proofs.Ytikigppfnhilhaa
open Go.RowKit Go.Instr Go.Shelf
set_option linter.unusedVariables false
set_option linter.unusedSimpArgs false
attribute [local go_sem] Oper.semAt_some

/-- Blocks of pointers, and of slices of pointers, are kept. -/
def KeepP (w w' : World) : Prop := ∀ k c t, Blk w k c t → t = 89 ∨ t = 75 → Blk w' k c t
theorem KeepP.refl (w : World) : KeepP w w := fun _ _ _ h _ => h
theorem KeepP.trans {a b c : World} (h : KeepP a b) (k : KeepP b c) : KeepP a c := fun i c t hb ht => k i c t (h i c t hb ht) ht
theorem KeepP.putObj {w : World} {l : Nat} {o : Obj} (h : w.heap[l]? = some o) (ho : o.isCells = false) (o' : Obj) : KeepP w (w.putObj l o') := fun k c t hb _ => by
  refine hb.putObj ?_ o'
  rintro rfl
  unfold Blk at hb; rw [h] at hb; injection hb with hb; subst hb; cases ho

/-- The pointers of a row. -/
structure RowP (w : World) (a : Option Addr) (l : List PB) : Prop where
  at_ : l ≠ [] → ∃ g cur, a = some ⟨g, 0, none⟩ ∧ Blk w g cur 89 ∧ ∀ (i : Nat) y, l[i]? = some y → cur[i]? = some (PB.ptr y)
theorem RowP.keep {w w' : World} {a : Option Addr} {l : List PB} (h : RowP w a l) (hk : KeepP w w') : RowP w' a l :=
  ⟨fun hl => let ⟨g, cur, h1, h2, h3⟩ := h.at_ hl; ⟨g, cur, h1, hk _ _ _ h2 (.inl rfl), h3⟩⟩
theorem RowP.get {w : World} {a : Option Addr} {l : List PB} (h : RowP w a l) {i : Nat} {y : PB} (hy : l[i]? = some y) : ∃ g, a = some ⟨g, 0, none⟩ ∧ w.cell? ⟨g, i, none⟩ = some y.ptr := by
  have hl : l ≠ [] := by rintro rfl; simp at hy
  obtain ⟨g, cur, h1, h2, h3⟩ := h.at_ hl
  exact ⟨g, h1, (h2.cell i).trans (h3 i y hy)⟩
theorem rowP_of {w : World} {base : Nat} {v : Value} {l : List PB} (h : w.ownsRow base 89 1 v l.length (l.map PB.ptr)) : ∃ a c, v = .slice a l.length c ∧ RowP w a l := by
  rcases h.2 with ⟨hv, hl⟩ | ⟨g, cap, cur, hv, _, hg, _, _, _, ht⟩
  · have : l = [] := List.eq_nil_of_length_eq_zero hl
    subst this
    exact ⟨none, 0, hv, ⟨fun h => absurd rfl h⟩⟩
  · refine ⟨some ⟨g, 0, none⟩, cap, hv, ⟨fun _ => ⟨g, cur, rfl, hg, fun i y hy => ?_⟩⟩⟩
    have h1 : (l.map PB.ptr)[i]? = some y.ptr := by simp [hy]
    rw [← ht, List.getElem?_take] at h1
    split at h1
    · simpa using h1
    · cases h1

theorem cell_allocO {w : World} {a : Addr} {v : Value} (h : w.cell? a = some v) (o : Obj) : (w.alloc o).cell? a = some v := Ext.cell ((Ext.refl w).alloc o) h
/-- What the iterator reads between two rounds. -/
structure AllAt (w : World) (q : Nat) (ya oa : Option Addr) (yc oc : Nat) (yb ob : List PB) : Prop where
  two : Blk w q #[.slice ya yb.length yc, .slice oa ob.length oc] 75
  y : RowP w ya yb
  o : RowP w oa ob
theorem AllAt.keep {w w' : World} {q : Nat} {ya oa : Option Addr} {yc oc : Nat} {yb ob : List PB} (h : AllAt w q ya oa yc oc yb ob) (hk : KeepP w w') : AllAt w' q ya oa yc oc yb ob :=
  ⟨hk _ _ _ h.two (.inr rfl), h.y.keep hk, h.o.keep hk⟩
def preOf (yb ob : List PB) : Nat → List PB
  | 0 => []
  | 1 => yb
  | _ => yb ++ ob

set_option maxRecDepth 100000 in
set_option maxHeartbeats 2000000 in
theorem allF_in (n : Nat) (hn : 1 ≤ n) (l bx hp : Nat) (ya oa : Option Addr) (yc oc : Nat) (yb ob : List PB) (hyl : yb.length ≤ 100000) (hol : ob.length ≤ 100000) (J Jx : List PB → World → Prop)
    (hY : ∀ pre y W, J pre W → (yb ++ ob)[pre.length]? = some y → YieldAt (WF none) (n - 1) Try.prog l #[y.ptr] W fun e W' =>
      (e = .returned (.bool true) ∧ J (pre ++ [y]) W' ∧ KeepP W W') ∨ (e = .returned (.bool false) ∧ Jx (pre ++ [y]) W'))
    (W : World) (hbx : W.cell? ⟨bx, 0, none⟩ = some (.pointer (some ⟨hp, 0, none⟩)))
    (h3 : W.cell? ⟨hp, 3, none⟩ = some (.slice ya yb.length yc)) (h7 : W.cell? ⟨hp, 7, none⟩ = some (.slice oa ob.length oc)) (hy : RowP W ya yb) (ho : RowP W oa ob) (hJ : AbidesFrom W.heap.size J) (h0 : J [] W) :
    CallsIn (WF none) n Try.prog 66 #[.func (.yield l) #[] #[], .pointer (some ⟨bx, 0, none⟩)] W fun e W' => (∃ v, e = .returned v) ∧
      ((∃ ys, ys = yb ++ ob ∧ J ys W') ∨ (∃ pre, pre <+: yb ++ ob ∧ Jx pre W')) := by
  have h6 : (WF none).fn 66 := trivial
  have hro : (WF none).round = none := rfl
  refine callsIn_of_wp Try.func66 rfl h6 ?_ hro
  simp only [Try.ntmps66, List.size_toArray, List.length_cons, List.length_nil, Nat.reduceAdd, Nat.reduceSub, Array.replicate_succ, Array.replicate_zero, List.push_toArray, List.append_toArray, List.nil_append, List.cons_append]
  gi_wp2
  refine region_S (fun V => V.cell? ⟨bx, 0, none⟩ = some (.pointer (some ⟨hp, 0, none⟩)) ∧ V.cell? ⟨hp, 3, none⟩ = some (.slice ya yb.length yc) ∧ V.cell? ⟨hp, 7, none⟩ = some (.slice oa ob.length oc)) 100 (by kernel_rfl) ?_
  have HS : Hid (W.drew.cell? ⟨bx, 0, none⟩ = some (.pointer (some ⟨hp, 0, none⟩)) ∧ W.drew.cell? ⟨hp, 3, none⟩ = some (.slice ya yb.length yc) ∧ W.drew.cell? ⟨hp, 7, none⟩ = some (.slice oa ob.length oc)) := ⟨hbx, h3, h7⟩
  refine anyS_quiet (a2 := ?a0) 0 rfl rfl rfl (by kernel_rfl) (by kernel_rfl) (by kernel_rfl) (by kernel_rfl) (by kernel_rfl) (by kernel_rfl) (fun _ _ _ _ h => h) HS.out ?h0 ?k0
  case h0 => intro W hW K hK; obtain ⟨c0, c1, c2⟩ := hW; go_simp; exact hK
  refine anyS_quiet (a2 := ?a1) 1 rfl rfl rfl (by kernel_rfl) (by kernel_rfl) (by kernel_rfl) (by kernel_rfl) (by kernel_rfl) (by kernel_rfl) (fun _ _ _ _ h => h) HS.out ?h1 ?k1
  case h1 => intro W hW K hK; obtain ⟨c0, c1, c2⟩ := hW; go_simp; exact hK
  refine anyS_quiet (a2 := ?a2) 2 rfl rfl rfl (by kernel_rfl) (by kernel_rfl) (by kernel_rfl) (by kernel_rfl) (by kernel_rfl) (by kernel_rfl) (fun _ _ _ _ h => h) HS.out ?h2 ?k2
  case h2 => intro W hW K hK; obtain ⟨c0, c1, c2⟩ := hW; go_simp; exact hK
  refine anyS_quiet (a2 := ?a3) 3 rfl rfl rfl (by kernel_rfl) (by kernel_rfl) (by kernel_rfl) (by kernel_rfl) (by kernel_rfl) (by kernel_rfl) (fun _ _ _ _ h => h) HS.out ?h3 ?k3
  case h3 => intro W hW K hK; obtain ⟨c0, c1, c2⟩ := hW; go_simp; exact hK
  refine anyS_quiet (a2 := ?a4) 4 rfl rfl rfl (by kernel_rfl) (by kernel_rfl) (by kernel_rfl) (by kernel_rfl) (by kernel_rfl) (by kernel_rfl) (fun _ _ _ _ h => h) HS.out ?h4 ?k4
  case h4 => intro W hW K hK; obtain ⟨c0, c1, c2⟩ := hW; go_simp; exact hK
  refine anyS_quiet (a2 := ?a5) 5 rfl rfl rfl (by kernel_rfl) (by kernel_rfl) (by kernel_rfl) (by kernel_rfl) (by kernel_rfl) (by kernel_rfl) (fun _ _ _ _ h => h) HS.out ?h5 ?k5
  case h5 => intro W hW K hK; obtain ⟨c0, c1, c2⟩ := hW; go_simp; exact hK
  refine anyS_quiet (a2 := ?a6) 6 rfl rfl rfl (by kernel_rfl) (by kernel_rfl) (by kernel_rfl) (by kernel_rfl) (by kernel_rfl) (by kernel_rfl) (fun _ _ _ _ h => h) HS.out ?h6 ?k6
  case h6 => intro W hW K hK; obtain ⟨c0, c1, c2⟩ := hW; go_simp; exact hK
  refine anyS_quiet (a2 := ?a7) 7 rfl rfl rfl (by kernel_rfl) (by kernel_rfl) (by kernel_rfl) (by kernel_rfl) (by kernel_rfl) (by kernel_rfl) (fun _ _ _ _ h => h) HS.out ?h7 ?k7
  case h7 => intro W hW K hK; obtain ⟨c0, c1, c2⟩ := hW; go_simp; exact hK
  refine anyS_quiet (a2 := ?a8) 8 rfl rfl rfl (by kernel_rfl) (by kernel_rfl) (by kernel_rfl) (by kernel_rfl) (by kernel_rfl) (by kernel_rfl) (fun _ _ _ _ h => h) HS.out ?h8 ?k8
  case h8 => intro W hW K hK; obtain ⟨c0, c1, c2⟩ := hW; go_simp; exact hK
  refine anyS_quiet (a2 := ?a9) 9 rfl rfl rfl (by kernel_rfl) (by kernel_rfl) (by kernel_rfl) (by kernel_rfl) (by kernel_rfl) (by kernel_rfl) (fun _ _ _ _ h => h) HS.out ?h9 ?k9
  case h9 => intro W hW K hK; obtain ⟨c0, c1, c2⟩ := hW; go_simp; exact hK
  refine anyS_quiet (a2 := ?ab_12) 12 rfl rfl rfl (by kernel_rfl) (by kernel_rfl) (by kernel_rfl) (by kernel_rfl) (by kernel_rfl) (by kernel_rfl) (fun _ _ _ _ h => h) HS.out ?hb_12 ?kb_12
  case hb_12 => intro W hW K hK; obtain ⟨c0, c1, c2⟩ := hW; go_simp; exact hK
  refine anyS_only 10 rfl (by kernel_rfl) ?_
  gi_wp2
  refine And.intro (.inr ⟨cell_allocO HS.out.1 _, cell_allocO HS.out.2.1 _, cell_allocO HS.out.2.2 _⟩) ?_
  refine anyS_only 11 rfl (by kernel_rfl) ?_
  gi_wp2
  refine And.intro (.inr ⟨cell_allocO HS.out.1 _, cell_allocO HS.out.2.1 _, cell_allocO HS.out.2.2 _⟩) ?_
  refine anyS_done (by kernel_rfl) ?_ _
  have hkA : KeepP W (W.alloc (.cells #[.slice ya yb.length yc, .slice oa ob.length oc] 75)).drew := fun k c t hb _ => hb.alloc _
  have HA0 : Hid (AllAt (W.alloc (.cells #[.slice ya yb.length yc, .slice oa ob.length oc] 75)).drew W.heap.size ya oa yc oc yb ob) := Lib.hid ⟨Blk.new W _ _, hy.keep hkA, ho.keep hkA⟩
  have hJ0 : J [] (W.alloc (.cells #[.slice ya yb.length yc, .slice oa ob.length oc] 75)).drew := hJ _ _ _ none h0 ⟨rfl, rfl, rfl, by simp, fun k hk _ => Below.heap_alloc _ _ _ hk⟩ (fun r e => by cases e)
  clear HS hbx h3 h7 hy ho h0 hkA
  generalize (W.alloc (.cells #[.slice ya yb.length yc, .slice oa ob.length oc] 75)).drew = V at HA0 hJ0 ⊢
  gi_wp2
  gi_loopw [21] (fun i wr => Hid (AllAt wr W.heap.size ya oa yc oc yb ob) ∧ ((i = .int .i64 0 ∧ J [] wr) ∨ (i = .int .i64 1 ∧ J yb wr) ∨ (i = .int .i64 2 ∧ J (yb ++ ob) wr))) (fun i wr => (2 - intOf i).toNat)
  case atStart => exact ⟨HA0, .inl ⟨rfl, hJ0⟩⟩
  case round =>
    obtain ⟨wo, rfl⟩ : ∃ wo : World, wo = wr := ⟨_, rfl⟩
    obtain ⟨HA, ⟨rfl, hJs⟩ | ⟨rfl, hJs⟩ | ⟨rfl, hJs⟩⟩ := hrel
    case inl =>
      have g0 : wo.cell? ⟨W.heap.size, 0, none⟩ = some (.slice ya yb.length yc) := (HA.out.two.cell 0).trans rfl
      gi_wp2
      gi_loopw [27] (fun j wr' => ∃ m : Nat, m ≤ yb.length ∧ j = .int .i64 m ∧ Hid (AllAt wr' W.heap.size ya oa yc oc yb ob) ∧ J (yb.take m) wr') (fun j wr' => yb.length - (intOf j).toNat)
      case atStart => exact ⟨0, Nat.zero_le _, rfl, HA, by simpa using hJs⟩
      case round =>
        obtain ⟨m, hm, rfl, HA', hJ'⟩ := hrel
        by_cases hlt : m < yb.length
        · have hyy := List.getElem?_eq_getElem hlt
          obtain ⟨g, rfl, hg⟩ := HA'.out.y.get hyy
          obtain ⟨fn, tmps, assign, body, hyld, hR⟩ := hY _ yb[m] wr hJ' (by rw [List.length_take, Nat.min_eq_left hm, List.getElem?_append_left hlt]; exact hyy)
          unfold PB.ptr at hg hyld
          gi_wp2
          refine hR.mono ?_
          rintro e W3 (⟨rfl, hJ3, hk3⟩ | ⟨rfl, hJx3⟩)
          · have HA3 := Lib.hid (HA'.out.keep hk3)
            gi_wp2
            go_roundw
            case rel => exact ⟨m + 1, by omega, by go_num, HA3, by rw [List.take_succ_eq_append_getElem hlt]; exact hJ3⟩
            case measure => simp [intOf]; omega
          · gi_wp2
            refine bodyPost_ret (results_none rfl _ _ _) rfl ?_
            exact ⟨⟨_, rfl⟩, .inr ⟨_, (by rw [← List.take_succ_eq_append_getElem hlt]; exact (List.take_prefix _ _).trans (List.prefix_append _ _)), hJx3⟩⟩
        · have : m = yb.length := by omega
          subst this
          rw [List.take_length] at hJ'
          gi_wp2
          go_roundw
          case rel => exact ⟨HA', .inr (.inl ⟨rfl, hJ'⟩)⟩
          case measure => simp [intOf]
    case inr.inl =>
      have g1 : wo.cell? ⟨W.heap.size, 1, none⟩ = some (.slice oa ob.length oc) := (HA.out.two.cell 1).trans rfl
      gi_wp2
      gi_loopw [27] (fun j wr' => ∃ m : Nat, m ≤ ob.length ∧ j = .int .i64 m ∧ Hid (AllAt wr' W.heap.size ya oa yc oc yb ob) ∧ J (yb ++ ob.take m) wr') (fun j wr' => ob.length - (intOf j).toNat)
      case atStart => exact ⟨0, Nat.zero_le _, rfl, HA, by simpa using hJs⟩
      case round =>
        obtain ⟨m, hm, rfl, HA', hJ'⟩ := hrel
        by_cases hlt : m < ob.length
        · have hyy := List.getElem?_eq_getElem hlt
          obtain ⟨g, rfl, hg⟩ := HA'.out.o.get hyy
          obtain ⟨fn, tmps, assign, body, hyld, hR⟩ := hY _ ob[m] wr hJ' (by rw [List.length_append, List.length_take, Nat.min_eq_left hm, List.getElem?_append_right (by omega), Nat.add_sub_cancel_left]; exact hyy)
          unfold PB.ptr at hg hyld
          gi_wp2
          refine hR.mono ?_
          rintro e W3 (⟨rfl, hJ3, hk3⟩ | ⟨rfl, hJx3⟩)
          · have HA3 := Lib.hid (HA'.out.keep hk3)
            gi_wp2
            go_roundw
            case rel => exact ⟨m + 1, by omega, by go_num, HA3, by rw [List.take_succ_eq_append_getElem hlt, ← List.append_assoc]; exact hJ3⟩
            case measure => simp [intOf]; omega
          · gi_wp2
            refine bodyPost_ret (results_none rfl _ _ _) rfl ?_
            exact ⟨⟨_, rfl⟩, .inr ⟨_, (by rw [List.append_assoc, ← List.take_succ_eq_append_getElem hlt]; exact List.prefix_append_right_inj _ |>.2 (List.take_prefix _ _)), hJx3⟩⟩
        · have : m = ob.length := by omega
          subst this
          rw [List.take_length] at hJ'
          gi_wp2
          go_roundw
          case rel => exact ⟨HA', .inr (.inr ⟨rfl, hJ'⟩)⟩
          case measure => simp [intOf]
    case inr.inr =>
      gi_wp2
      go_end0
      exact ⟨⟨_, rfl⟩, .inl ⟨_, rfl, hJs⟩⟩
end Go.Proofs.Ytikigppfnhilhaa
/- Steps that write blocks of some types alone. -/
namespace Go.Proofs.Ytikigppfnhilhaa
open Go.RowKit Go.Instr
set_option linter.unusedVariables false
set_option linter.unusedSimpArgs false

/-- Blocks of cells of a type of T may have changed; all else stands. -/
structure TKeep (T : TypeId → Bool) (w w' : World) : Prop where
  os : w'.os = w.os
  tape : w'.tape = w.tape
  output : w'.output = w.output
  size : w.heap.size ≤ w'.heap.size
  keep : ∀ (k : Nat) (o : Obj), w.heap[k]? = some o → (∀ c t f, o = .cells c t f → T t = false) → w'.heap[k]? = some o
theorem TKeep.refl (T : TypeId → Bool) (w : World) : TKeep T w w := ⟨rfl, rfl, rfl, Nat.le_refl _, fun _ _ h _ => h⟩
theorem TKeep.trans {T : TypeId → Bool} {a b c : World} (h : TKeep T a b) (k : TKeep T b c) : TKeep T a c :=
  ⟨k.os.trans h.os, k.tape.trans h.tape, k.output.trans h.output, Nat.le_trans h.size k.size, fun i o hi ho => k.keep i o (h.keep i o hi ho) ho⟩
theorem TKeep.of_ext {T : TypeId → Bool} {a b : World} (h : Ext a b) : TKeep T a b :=
  ⟨h.os, h.tape, h.output, h.size, fun k o hk _ => (h.heap k (Array.getElem?_eq_some_iff.1 hk).1).trans hk⟩
theorem TKeep.alloc {T : TypeId → Bool} {a b : World} (h : TKeep T a b) (o : Obj) : TKeep T a (b.alloc o) := h.trans (.of_ext ((Ext.refl b).alloc o))
theorem TKeep.drew {T : TypeId → Bool} {a b : World} (h : TKeep T a b) : TKeep T a b.drew := h.trans (.of_ext (Ext.refl b).drew)
theorem TKeep.drewN {T : TypeId → Bool} {a b : World} (h : TKeep T a b) (n : Nat) : TKeep T a (b.drewN n) := h.trans (.of_ext ((Ext.refl b).drewN n))
theorem TKeep.setCell {T : TypeId → Bool} {a b : World} (h : TKeep T a b) {p : Addr} {c : Array Value} {t : TypeId} (hb : Blk b p.block c t) (ht : T t = true) (v : Value) : TKeep T a (b.setCell p v) :=
  h.trans ⟨rfl, rfl, rfl, by simp, fun k o hk ho => by
    refine (Below.heap_setCell _ _ _ _ ?_).trans hk
    rintro rfl
    unfold Blk at hb; rw [hk] at hb; injection hb with hb; subst hb
    have := ho c t (0, 0) rfl; rw [ht] at this; cases this⟩
theorem TKeep.grown {T : TypeId → Bool} {a b c : World} {v : Value} (h : TKeep T a b) (hg : b.grownBy c v.ownBlock) {base : Nat} {e : TypeId} {size n : Nat} {xs : List Value} (hv : b.ownsRow base e size v n xs) (he : T e = true) : TKeep T a c :=
  h.trans ⟨hg.os, hg.tape, hg.output, hg.size, fun k o hk ho => by
    refine (hg.block k (Array.getElem?_eq_some_iff.1 hk).1 fun e' => ?_).trans hk
    obtain ⟨cur, hc⟩ := ownsRow_type hv e'.symm
    unfold Blk at hc; rw [hk] at hc; injection hc with hc; subst hc
    have := ho _ _ _ rfl; rw [he] at this; cases this⟩
theorem TKeep.mono {T T' : TypeId → Bool} {a b : World} (h : TKeep T a b) (ht : ∀ t, T t = true → T' t = true) : TKeep T' a b :=
  ⟨h.os, h.tape, h.output, h.size, fun k o hk ho => h.keep k o hk fun c t f e => by
    have := ho c t f e
    cases hh : T t with
    | false => rfl
    | true => rw [ht t hh] at this; cases this⟩
theorem TKeep.blk {T : TypeId → Bool} {a b : World} (h : TKeep T a b) {k : Nat} {c : Array Value} {t : TypeId} (hb : Blk a k c t) (ht : T t = false) : Blk b k c t :=
  h.keep k _ hb fun c' t' f e => by injection e with _ e; subst e; exact ht
theorem TKeep.obj {T : TypeId → Bool} {a b : World} (h : TKeep T a b) {k : Nat} {o : Obj} (hb : a.heap[k]? = some o) (ho : o.isCells = false) : b.heap[k]? = some o :=
  h.keep k _ hb fun c' t' f e => by subst e; cases ho
theorem TKeep.row {T : TypeId → Bool} {a b : World} (h : TKeep T a b) {base : Nat} {e : TypeId} {size n : Nat} {v : Value} {xs : List Value} (hv : a.ownsRow base e size v n xs) (he : T e = false) : b.ownsRow base e size v n xs :=
  ownsRow_keeps hv fun k hk => by
    obtain ⟨cur, hc⟩ := ownsRow_type hv hk
    exact (h.blk hc he).trans hc.symm
theorem TKeep.mapV {T : TypeId → Bool} {a b : World} (h : TKeep T a b) {v : Value} {es : Array MapEntry} {c : Nat} (hv : MapV a v es c) : MapV b v es c := by
  rcases hv with hv | ⟨m, hm, hv⟩
  · exact .inl hv
  · exact .inr ⟨m, hm, h.obj hv rfl⟩
theorem TKeep.hrep {T : TypeId → Bool} {a b : World} (h : TKeep T a b) (h1 : T 81 = false) (h2 : T 89 = false) (h3 : T 91 = false) (h4 : T 33 = false) {base : Nat} {x : PH} (hx : HRep a base x) : HRep b base x where
  blk := h.blk hx.blk h1
  yrow := h.row hx.yrow h2
  orow := h.row hx.orow h2
  rows := hx.rows
  amap := let ⟨es, c, hm, r⟩ := hx.amap; ⟨es, c, h.mapV hm, r⟩
  rmap := let ⟨es, c, hm, r⟩ := hx.rmap; ⟨es, c, h.mapV hm, r⟩
  maps := hx.maps
  pbs := fun y hy => ⟨h.blk (hx.pbs y hy).st h3, h.blk (hx.pbs y hy).wo h4⟩
  ps := hx.ps
  arrs := hx.arrs
  base_ := hx.base_
  ok := hx.ok
theorem TKeep.keepP {T : TypeId → Bool} {a b : World} (h : TKeep T a b) (h1 : T 89 = false) (h2 : T 75 = false) : KeepP a b := fun k c t hb ht => h.blk hb (by rcases ht with rfl | rfl; exact h1; exact h2)
theorem TKeep.others {T : TypeId → Bool} {a b : World} (h : TKeep T a b) : KeepsOthers a b := ⟨h.size, fun k o hk ho => h.obj hk ho⟩

theorem cells_new (w : World) (c : List Value) (t : TypeId) : ∀ j u, c[j]? = some u → (w.alloc (.cells c.toArray t)).cell? ((⟨w.heap.size, 0, none⟩ : Addr).add j) = some u := by
  intro j u hj
  have : (⟨w.heap.size, 0, none⟩ : Addr).add j = ⟨w.heap.size, j, none⟩ := by unfold Addr.add; split <;> simp_all
  rw [this, (Blk.new w c.toArray t).cell]; simpa using hj
theorem TKeep.putObj {T : TypeId → Bool} {a b : World} (h : TKeep T a b) {D : Nat} {o : Obj} (hD : b.heap[D]? = some o) (ho : o.isCells = false) (o' : Obj) : ∀ {k : Nat} {c : Array Value} {t : TypeId}, Blk b k c t → Blk (b.putObj D o') k c t := fun hb => by
  refine hb.putObj ?_ o'
  rintro rfl
  unfold Blk at hb; rw [hD] at hb; injection hb with hb; subst hb; cases ho
theorem ownsRow_putObj {w : World} {D : Nat} {o : Obj} (hD : w.heap[D]? = some o) (ho : o.isCells = false) (o' : Obj) {b : Nat} {e : TypeId} {size n : Nat} {v : Value} {xs : List Value} (h : w.ownsRow b e size v n xs) : (w.putObj D o').ownsRow b e size v n xs :=
  ownsRow_keeps h fun k hk => by
    obtain ⟨cur, hc⟩ := ownsRow_type h hk
    exact ((TKeep.refl (fun _ => false) w).putObj hD ho o' hc).trans hc.symm
theorem ownsRow_base {w : World} {b b' : Nat} {e : TypeId} {size n : Nat} {v : Value} {xs : List Value} (h : w.ownsRow b e size v n xs) (hb : b' ≤ b) : w.ownsRow b' e size v n xs := by
  refine ⟨h.1, ?_⟩
  rcases h.2 with h2 | ⟨g, cap, cur, h1, h2, r⟩
  · exact .inl h2
  · exact .inr ⟨g, cap, cur, h1, Nat.le_trans hb h2, r⟩
theorem own_slice {w : World} {b : Nat} {e : TypeId} {size n : Nat} {v : Value} {xs : List Value} (h : w.ownsRow b e size v n xs) : ∃ a c, v = .slice a n c := by
  rcases h.2 with ⟨h2, rfl⟩ | ⟨g, cap, cur, h1, r⟩
  · exact ⟨none, 0, h2⟩
  · exact ⟨_, _, h1⟩
theorem Ext.below {a b : World} (h : Ext a b) {B : Nat} (hB : B ≤ a.heap.size) : Below B a b := Keeps.below h hB fun _ h => h.elim
/-! ### One operation in a round -/
section
variable {r : Option Nat} {n : Nat} {P : Program} {ops : Array Oper} {Q : Exit → Act → World → Prop} {rest : List Oper} {o : Oper} {a : Act} {w w2 : World}
theorem wpListIn_value {v : Value} (hg : o.guard = none) (hd : ∀ c, o.op ≠ .defer c) (hrun : (execOp a.eval o).run P w = .ok (.value v) w2) (hK : wpListIn (WF r) n P ops Q rest (a.put o.dst v) w2) : wpListIn (WF r) n P ops Q (o :: rest) a w := by
  unfold wpListIn
  simp only [Region.wanted, hg, if_true, Oper.wpIn, Oper.semAt_eq _ _ _ hd, hrun]
  exact ⟨fun _ _ => trivial, hK⟩
theorem wpListIn_skip (hg : o.guard = none) (hd : ∀ c, o.op ≠ .defer c) (hrun : (execOp a.eval o).run P w = .ok .skip w2) (hK : wpListIn (WF r) n P ops Q rest (a.put o.dst undef) w2) : wpListIn (WF r) n P ops Q (o :: rest) a w := by
  unfold wpListIn
  simp only [Region.wanted, hg, if_true, Oper.wpIn, Oper.semAt_eq _ _ _ hd, hrun]
  exact ⟨fun _ _ => trivial, hK⟩
theorem wpListIn_call {f : FuncId} {args : Array Value} {R : Ending → World → Prop} (hg : o.guard = none) (hd : ∀ c, o.op ≠ .defer c) (hrun : (execOp a.eval o).run P w = .ok (.enter f args) w2) (hc : Calls P f args w2 R)
    (hK : ∀ e w', R e w' → ∃ v, e = .returned v ∧ wpListIn (WF r) n P ops Q rest (a.put o.dst v) w') : wpListIn (WF r) n P ops Q (o :: rest) a w := by
  unfold wpListIn
  simp only [Region.wanted, hg, if_true, Oper.wpIn, Oper.semAt_eq _ _ _ hd, hrun]
  refine ⟨fun _ _ => trivial, fun h => (by cases h), ?_⟩
  refine CallsIn.mono (callsIn_WF hc) fun e w' he => ?_
  obtain ⟨v, rfl, h⟩ := hK e w' he
  exact h
theorem wpListIn_append_fresh (hgd : o.guard = none) (s x : Operand) (t : TypeId)
    (ho : o.op = .call { callee := .builtin .append, args := #[s, x], argTypes := #[t, t] })
    (base : Nat) (e : TypeId) (i : TypeInfo) (z : Value) (size bytes : Nat) (ht : P.underlying t = some (.slice e)) (hi : P.info? e = some i) (hz : i.zero = some z)
    (hsize : i.size = size) (hby : i.bytes = bytes) (hzs : z.cells.size = size) (hsz : 0 < size)
    (v : Value) (m0 : Nat) (xs : List Value) (hs : a.eval s = v) (hown : w.ownsRow base e size v m0 xs)
    (ad : Addr) (m c : Nat) (news : List Value) (hx : a.eval x = .slice (some ad) m c) (hl : news.length = m * size) (hnews : ∀ j u, news[j]? = some u → w.cell? (ad.add j) = some u) (h1 : ∀ u ∈ news, u.oneCell' = true)
    (h63 : m0 + m ≤ maxLen) (hbytes : (m0 + m) * bytes ≤ 140737488355328) (hbase : base ≤ w.heap.size)
    (h : ∀ v' w', w'.ownsRow base e size v' (m0 + m) (xs ++ news) → w.grownBy w' v.ownBlock → (v' = .slice none 0 0 ↔ v = .slice none 0 0 ∧ m = 0) → (∀ k, v'.ownBlock = some k → v.ownBlock = some k ∨ w.heap.size ≤ k) → wpListIn (WF r) n P ops Q rest (a.put o.dst v') w') : wpListIn (WF r) n P ops Q (o :: rest) a w := by
  obtain ⟨v', w', hr, h2, h3, h4, h5⟩ := append_own_fresh (P := P) w base t o.type e i z size bytes ht hi hz hsize hby hzs hsz v m0 xs hown ad m c news hl hnews h1 h63 hbytes hbase
  refine wpListIn_value hgd (fun c e => by rw [ho] at e; cases e) (v := v') (w2 := w') ?_ (h v' w' h2 h3 h4 h5)
  unfold execOp
  simp only [ho, resolve, invoke, builtin, Sem.run_bind, Sem.run_pure, Result.andThen_ok, List.map_toArray, List.map_cons, List.map_nil, hs, hx, hr]
end
end Go.Proofs.Ytikigppfnhilhaa
