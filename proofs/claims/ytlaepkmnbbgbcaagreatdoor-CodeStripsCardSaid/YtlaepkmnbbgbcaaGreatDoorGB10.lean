/- numbers: numbers behind blanks. As HN, but the iterator may count on what the body leaves also where the body ends the range. operands; what the lines of a code are; what the body of a range leaves as it was. Two operations of a drawn region that can come next. -/
import Derived.Test.YtlaepkmnbbgbcaaGreatDoorGB9
import Derived.Test.YtlaepkmnbbgbcaaGreatDoorGB4
import Derived.Lib.ItoaLen
import Derived.RangeFuncWrites
import Derived.RangeFuncBound
import Derived.RangeFuncCalls
import Derived.RangeFuncLeaves
/- numbers: numbers behind blanks. -/
namespace Go.Proofs.YtlaepkmnbbgbcaaGreatDoor
open Go.RowKit Go.Instr Go.Shelf Go.Sort
set_option linter.unusedVariables false
set_option linter.unusedSimpArgs false
attribute [local go_sem] Oper.semAt_some

theorem Bld.kept {B b : Nat} {l : List UInt8} {w w' : World} (h : Bld B b l w) (hx : Ex w w') : Bld B b l w' := by
  have key : ∀ {p : Value}, Lib.BuilderAtF 100 5 B b p (Lib.byteCells l) w → Lib.BuilderAtF 100 5 B b p (Lib.byteCells l) w' := by
    intro p ⟨h1, v, h2, h3, h4⟩
    refine ⟨h1, v, hx.obj h2 id, ?_, h4⟩
    rcases h3.2 with e | ⟨g, cap, cur, fz, e, h5, h6, h7⟩
    · exact ⟨h3.1, .inl e⟩
    · exact ⟨h3.1, .inr ⟨g, cap, cur, fz, e, h5, hx.obj h6 id, h7⟩⟩
  exact h.elim (fun h => .inl (key h)) (fun h => .inr (key h))
theorem Bld.new (w : World) : Bld w.heap.size w.heap.size [] (w.alloc (.cells #[.pointer none, .slice none 0 0] 100)) :=
  Lib.IsBuilderF.of (Lib.fresh_isBuilder _ _ w)
/-- The table of powers of ten that Itoa reads. -/
abbrev Tab (w : World) : Prop := Lib.TabIs Tryz.prog w "internal/strconv.uint64pow10" .u64 Lib.pow10Tab
theorem Tab.ext {w w' : World} (h : Tab w) (hx : Ex w w') : Tab w' := by
  unfold Tab Lib.TabIs World.var? at h ⊢
  cases hg : Tryz.prog.globalNamed "internal/strconv.uint64pow10" with
  | none => simp [hg] at h
  | some g =>
    simp only [hg, Option.bind_some] at h ⊢
    have hlt : g < w.heap.size := by
      rcases Nat.lt_or_ge g w.heap.size with h' | h'
      · exact h'
      · simp [Array.getElem?_eq_none h'] at h
    rw [hx.block g hlt id]
    exact h
theorem ex_of_below {w0 w w' : World} {B : Nat} (h : Ex w0 w) (hb : w0.heap.size ≤ B) (hx : Below B w w') (hB : B ≤ w.heap.size) : Ex w0 w' :=
  ⟨hx.os.trans h.os, hx.tape.trans h.tape, hx.output.trans h.output, Nat.le_trans h.size hx.size, fun k hk _ => (hx.block k (by omega)).trans (h.block k hk id)⟩
theorem ex_of_grow {w w' : World} (h : ∃ k os, w' = grow (w.drewN k) os) : Ex w w' := by
  obtain ⟨k, os, rfl⟩ := h
  exact ⟨rfl, rfl, rfl, by simp [grow], fun j hj _ => by simp only [grow]; rw [Array.getElem?_append_left (by simpa using hj)]; rfl⟩
/-- Numbers, each with a blank in front. -/
def numsB (l : List Int) : List UInt8 := l.flatMap fun n => 32 :: Lib.itoa n
def I64 (n : Int) : Prop := -9223372036854775808 ≤ n ∧ n ≤ 9223372036854775807
theorem itoa_len {n : Int} (h : I64 n) : (Lib.itoa n).length ≤ 21 := Lib.itoa_length_le n h.1 h.2
theorem numsB_len {l : List Int} (h : ∀ n ∈ l, I64 n) : (numsB l).length ≤ 22 * l.length := by
  induction l with
  | nil => simp [numsB]
  | cons n r ih =>
    have h1 := itoa_len (h n (by simp))
    have h2 := ih fun m hm => h m (by simp [hm])
    unfold numsB at h2 ⊢
    rw [List.flatMap_cons, List.length_append, List.length_cons]
    simp only [List.length_cons]
    omega
set_option maxRecDepth 100000 in
set_option maxHeartbeats 2000000 in
theorem numbers_any {w : World} (ht : Tab w) {v : Value} {l : List Int} (h : RdL encI w v l) (hl : l.length ≤ 1000000) (hi : ∀ n ∈ l, I64 n) :
    Calls Tryz.prog 97 #[v] w fun e w' => e = .returned (.string ⟨(numsB l).toArray⟩) ∧ Ex w w' := by
  obtain ⟨a, c, rfl, -, h1, -⟩ := id h
  obtain ⟨W1, hW1⟩ : ∃ W1, w.alloc (.cells #[.pointer none, .slice none 0 0] 100) = W1 := ⟨_, rfl⟩
  obtain ⟨b, hb⟩ : ∃ b, w.heap.size = b := ⟨_, rfl⟩
  have hX1 : Ex w W1 := by rw [← hW1]; exact (Keeps.refl _ w).alloc _
  have hB1 : Bld b b [] W1 := by rw [← hW1, ← hb]; exact Bld.new w
  have hs1 : b < W1.heap.size := by rw [← hW1, World.size_alloc]; omega
  have H := Lib.hid h; have HT := Lib.hid ht; have HW1 := Lib.hid hW1; have Hb := Lib.hid hb; have HX1 := Lib.hid hX1; have HB1 := Lib.hid hB1; have Hs1 := Lib.hid hs1; have HI := Lib.hid hi; have Hn := Lib.hid h1
  clear h ht hW1 hb hX1 hB1 hs1 hi h1
  go_enter Tryz.func97, Tryz.ntmps97
  go_upto_region 2 with fail
  rw [HW1.out]
  try rw [Hb.out]
  go_wp2_with fail
  go_loopw [8] (fun s wr => ∃ k : Nat, k ≤ l.length ∧ s = .int .i64 k ∧ Hid (Ex w wr) ∧ Hid (Bld b b (numsB (l.take k)) wr) ∧ Hid (b < wr.heap.size)) (fun s wr => l.length - (intOf s).toNat)
  case atStart => exact ⟨0, Nat.zero_le _, rfl, HX1, by simpa [numsB] using HB1, Hs1⟩
  case round =>
    obtain ⟨k, hk, rfl, HX, HB, Hs⟩ := hrel
    by_cases hlt : k < l.length
    case pos =>
      obtain ⟨ad, rfl⟩ : ∃ ad, a = some ad := by
        cases a with
        | none => have := Hn.out rfl; subst this; simp at hlt
        | some ad => exact ⟨ad, rfl⟩
      have z := (H.out.ext HX.out).int_at hlt
      have hgn : l[k]? = some (l.getD k 0) := by rw [List.getD_eq_getElem?_getD, List.getElem?_eq_getElem hlt]; rfl
      have hin := HI.out (l.getD k 0) (List.mem_of_getElem? hgn)
      have hit := Sh.strconv_Itoa (l.getD k 0) hin.1 hin.2 wr (HT.out.ext HX.out)
      have HG := Lib.hid hgn; have HIN := Lib.hid hin
      clear hgn hin
      generalize l.getD k 0 = n at z hit HG HIN
      have HIT := Lib.hid hit
      have hil := itoa_len HIN.out
      have hbig : ¬ 9223372036854775807 < 1 + (Lib.itoa n).length := by omega
      have hbl := numsB_len (l := l.take k) fun m hm => HI.out m (List.mem_of_mem_take hm)
      rw [List.length_take] at hbl
      have HBL := Lib.hid hbl
      clear hit hil hbl
      go_wp2_with (go_at_call 134; refine HIT.out.mono ?_; rintro e w3 ⟨rfl, hg3⟩; have HX3 := Lib.hid (ex_of_grow hg3); clear hg3)
      have hil := itoa_len HIN.out
      have hsz : (ByteArray.size ({ data := #[32] } ++ { data := (Lib.itoa n).toArray } : ByteArray)) = 1 + (Lib.itoa n).length := by
        rw [ByteArray.size_append]; rfl
      refine (write_any b b _ _ w3 (HB.out.kept HX3.out) (by rw [hsz]; have := HBL.out; omega) (by have := HX3.out.size; have := Hs.out; omega)).mono ?_
      rintro e w4 ⟨rfl, hb4, hx4, -⟩
      have hB4 : Bld b b (numsB (l.take (k + 1))) w4 := by
        have e1 : numsB (l.take (k + 1)) = numsB (l.take k) ++ ({ data := #[32] } ++ { data := (Lib.itoa n).toArray } : ByteArray).data.toList := by
          unfold numsB
          rw [List.take_add_one, HG.out, List.flatMap_append, ByteArray.data_append]
          simp
        rw [e1]; exact hb4
      have HB4 := Lib.hid hB4
      have HX4 : Hid (Ex w w4) := Lib.hid (ex_of_below (HX.out.trans HX3.out) (by rw [Hb.out]; exact Nat.le_refl _) hx4 (by have := HX3.out.size; have := Hs.out; omega))
      have HS4 : Hid (b < w4.heap.size) := Lib.hid (by have := HX3.out.size; have := Hs.out; have := hx4.size; omega)
      clear hb4 hB4 hx4 hil hsz hbig
      go_wp2_with fail
      go_roundw
      case rel => exact ⟨k + 1, by omega, by go_num, HX4, HB4, HS4⟩
      case measure => simp [intOf]; omega
    case neg =>
      have : k = l.length := by omega
      subst this
      rw [List.take_length] at HB
      go_wp2_with (go_at_call 56; refine (Sh.Builder_String_any_k b b _ wr HB.out (by have := Hs.out; omega)).mono ?_; rintro e w3 ⟨rfl, -, hx3, -⟩; have HX3 := Lib.hid hx3; clear hx3)
      go_ret
      exact ⟨rfl, ex_of_below HX.out (by rw [Hb.out]; exact Nat.le_refl _) HX3.out (by have := Hs.out; omega)⟩
end Go.Proofs.YtlaepkmnbbgbcaaGreatDoor
/- As HN, but the iterator may count on what the body leaves also where the body ends the range. -/
namespace Go.Proofs.YtlaepkmnbbgbcaaGreatDoor
open Go.RowKit Go.Instr
set_option linter.unusedVariables false
set_option linter.unusedSimpArgs false

/-- The iterator yields just the list L, in order, as long as it is let. -/
def SeqIs2 {α : Type} (n : Nat) (P : Program) (g : Nat) (lb : Array Value) (encs : α → Array Value) (Kp : World → World → Prop) (L : List α) (w : World) : Prop :=
  ∀ (l : Nat) (J Jx : Nat → World → Prop) (W : World), Below w.heap.size w W → AbidesFrom W.heap.size J → AbidesFrom W.heap.size Jx →
    (∀ k y W1, J k W1 → L[k]? = some y → YieldAt (WF none) (n - 1) P l (encs y) W1 fun e W' => (e = .returned (.bool true) ∧ J (k + 1) W' ∧ Kp W1 W') ∨ (e = .returned (.bool false) ∧ Jx (k + 1) W' ∧ Kp W1 W')) →
    J 0 W → CallsIn (WF none) n P g (#[.func (.yield l) #[] #[]] ++ lb) W fun e W' => (∃ v, e = .returned v) ∧ (J L.length W' ∨ ∃ k, k ≤ L.length ∧ Jx k W')

def ownPostN2 (B : Nat) (Kp : World → World → Prop) (I : Nat → World → Prop) (Ix : Code → Nat → World → Prop) (k : Nat) (W : World) : Exit → Act → World → Prop
  | .normal, _, W' => KeepsFrom B W W' ∧ Kp W W' ∧ I k W'
  | .ret, _, W' => KeepsFrom B W W' ∧ Kp W W' ∧ Ix .ret k W'
  | .exit id, _, W' => KeepsFrom B W W' ∧ Kp W W' ∧ Ix (.exit id) k W'
  | .goto t, _, W' => KeepsFrom B W W' ∧ Kp W W' ∧ Ix (.goto t) k W'
  | .panic _, _, _ => False
  | .outgrown, _, _ => False

theorem rangeFunc_nth2 {α : Type} {n : Nat} {P : Program} {g : Operand} {ps : Array Tmp} {assign body : Code} {Q : Exit → Act → World → Prop} {a : Act} {w : World}
    {gf : Nat} {lb : Array Value} (hg : a.eval g = .func (.func gf) #[] lb) (eg : ∀ args w, (callFunc gf args).run P w = .ok (.enter gf args) w)
    {encs : α → Array Value} {Kp : World → World → Prop} {L : List α} (hseq : SeqIs2 (n - 1) P gf lb encs Kp L w)
    (hKt : ∀ {A B C : World}, Kp A B → Kp B C → Kp A C) (hKb : ∀ (W : World) (l : Nat) (o o' : Obj), w.heap.size ≤ l → W.heap[l]? = some o → o.isCells = false → o.isWalk = false → Kp W (W.putObj l o')) (hps : ∀ x, (encs x).size = ps.size)
    (I : Nat → World → Prop) (Ix : Code → Nat → World → Prop) (hI : OwnFrom w.heap.size I) (hIx : ∀ c, OwnFrom w.heap.size (Ix c)) (h0 : I 0 w) (a₁ : α → Act)
    (hassign : ∀ (l : Nat) (x : α) (W : World) (K : Act → World → Prop), K (a₁ x) W →
      assign.wpIn (WF (some l)) (n - 1 - 1) P (Exit.then K (fun _ _ _ => False)) { tmps := (ps.zip (encs x)).foldl (fun t (p, v) => t.setIfInBounds p v) a.tmps, defers := [] } W)
    (hbody : ∀ (l k : Nat) (x : α) (W : World), I k W → L[k]? = some x → body.wpIn (WF (some l)) (n - 1 - 1) P (ownPostN2 w.heap.size Kp I Ix (k + 1) W) (a₁ x) W)
    (hdone : ∀ (D : Nat) (W : World), w.heap.size ≤ D → I L.length W → W.heap[D]? = some (.deferred (some [])) → Q .normal { a with defers := { target := .collected D, args := #[] } :: a.defers } W)
    (hstop : ∀ (D : Nat) (c : Code) (k : Nat) (W : World), w.heap.size ≤ D → k ≤ L.length → Ix c k W → W.heap[D]? = some (.deferred (some [])) → c.wpIn (WF none) n P Q { a with defers := { target := .collected D, args := #[] } :: a.defers } W) :
    (Code.rangeFunc g ps assign body).wpIn (WF none) n P Q a w := by
  refine wpIn_rangeFunc ?_
  intro fn hfn
  rw [WF_round]
  obtain ⟨rec, hrec⟩ : ∃ rec : LoopState → Option Code → Loop, rec = fun st pe => { state := st, pending := pe, fn, tmps := a.tmps, params := ps, assign, body, defers := w.heap.size } := ⟨_, rfl⟩
  obtain ⟨W1, hW1⟩ : ∃ W1, (w.alloc (.deferred (some []))).alloc (.loop (rec .ready none)) = W1 := ⟨_, rfl⟩
  have hL1 : W1.heap[w.heap.size + 1]? = some (.loop (rec .ready none)) := by
    rw [← hW1]; have := World.alloc_heap_new (w.alloc (.deferred (some []))) (.loop (rec .ready none)); rwa [World.size_alloc] at this
  have hK1 : W1.heap[w.heap.size]? = some (.deferred (some [])) := by
    rw [← hW1]; exact (Below.heap_alloc _ _ _ (by simp)).trans (World.alloc_heap_new w _)
  have hI1 : I 0 W1 := by rw [← hW1]; exact hI.alloc _ (hI.alloc _ h0)
  have hb1 : Below w.heap.size w W1 := by
    rw [← hW1]; exact ((Below.refl _ w).alloc (Nat.le_refl _) _).alloc (by simp) _
  refine ⟨w.heap.size + 1, [{ target := .collected w.heap.size, args := #[] }], W1, { target := .fn (.func gf) lb, args := #[.func (.yield (w.heap.size + 1)) #[] #[]] }, W1, gf,
    #[.func (.yield (w.heap.size + 1)) #[] #[]] ++ lb, W1, ?_, ?_, ?_, ?_, fun h => (by cases h), ?_⟩
  · rw [← hW1, hrec]; exact run_enterLoop_outer _ _ _ _ _
  · simp only [resolve, hg]
    simp [go_sem]
  · intro f' hf'; trivial
  · simp [invoke, go_sem, eg]
  · have hnw : ∀ {A B : World} {row : Option Nat}, (∀ r, row = some r → W1.heap.size ≤ r ∧ ∃ o : Obj, A.heap[r]? = some o ∧ o.isWalk = true) → (∀ r, row = some r → w.heap.size ≤ r ∧ ∃ o : Obj, A.heap[r]? = some o ∧ o.isCells = false) :=
      fun hr r e => by obtain ⟨hB, o, ho, hw⟩ := hr r e; exact ⟨by rw [← hW1] at hB; simp at hB; omega, o, ho, Obj.not_cells_of_walk hw⟩
    refine (hseq (w.heap.size + 1)
      (fun k W => I k W ∧ W.heap[w.heap.size + 1]? = some (.loop (rec .ready none)) ∧ W.heap[w.heap.size]? = some (.deferred (some [])))
      (fun k W => ∃ c, Ix c k W ∧ W.heap[w.heap.size + 1]? = some (.loop (rec .done (some c))) ∧ W.heap[w.heap.size]? = some (.deferred (some [])))
      W1 hb1
      (fun s A B row hs hg' hr => ⟨hI s A B row hs.1 hg' (hnw (B := B) hr), (grownBy_keeps hg' (fun r e => (hr r e).2) hs.2.1 rfl).trans hs.2.1, (grownBy_keeps hg' (fun r e => (hr r e).2) hs.2.2 rfl).trans hs.2.2⟩)
      (fun s A B row hs hg' hr => by
        obtain ⟨c, hc, hl, hk⟩ := hs
        exact ⟨c, hIx c s A B row hc hg' (hnw (B := B) hr), (grownBy_keeps hg' (fun r e => (hr r e).2) hl rfl).trans hl, (grownBy_keeps hg' (fun r e => (hr r e).2) hk rfl).trans hk⟩)
      ?_ ⟨hI1, hL1, hK1⟩).mono ?_
    · rintro k x W ⟨hi, hl, hk⟩ hx
      have hlt : w.heap.size + 1 < W.heap.size := (Array.getElem?_eq_some_iff.1 hl).1
      have hy := run_yield (P := P) (args := encs x) hl (by rw [hrec]; exact hps x)
      rw [hrec] at hy
      refine ⟨fn, _, assign, body, hy, roundIn_of_wpIn hfn (hassign _ x W _ ⟨_, run_beginRound hl (by rw [hrec]), ?_⟩)⟩
      have hl2 : (W.putObj (w.heap.size + 1) (.loop { rec .ready none with state := .busy })).heap[w.heap.size + 1]? = some (.loop { rec .ready none with state := .busy }) := World.putObj_heap_same hlt
      have hk2 : (W.putObj (w.heap.size + 1) (.loop { rec .ready none with state := .busy })).heap[w.heap.size]? = some (.deferred (some [])) := (World.putObj_heap_other (by omega)).trans hk
      have hw2 : Kp W (W.putObj (w.heap.size + 1) (.loop { rec .ready none with state := .busy })) := hKb _ _ _ _ (by omega) hl rfl rfl
      refine wpIn_mono (hbody _ k x _ (hI.putObj _ hi (by omega) hl rfl) hx) ?_
      have fin : ∀ (jump : Option Code) (W3 : World), KeepsFrom w.heap.size (W.putObj (w.heap.size + 1) (.loop { rec .ready none with state := .busy })) W3 →
          (Instr.endRound (w.heap.size + 1) jump).run P W3 = .ok (.bool jump.isNone) (W3.putObj (w.heap.size + 1) (.loop (rec (if jump.isNone then .ready else .done) jump))) ∧
          W3.heap[w.heap.size + 1]? = some (.loop { rec .ready none with state := .busy }) ∧
          (W3.putObj (w.heap.size + 1) (.loop (rec (if jump.isNone then .ready else .done) jump))).heap[w.heap.size + 1]? = some (.loop (rec (if jump.isNone then .ready else .done) jump)) ∧
          (W3.putObj (w.heap.size + 1) (.loop (rec (if jump.isNone then .ready else .done) jump))).heap[w.heap.size]? = some (.deferred (some [])) := fun jump W3 hk3 => by
        have hl3 := hk3.same _ _ (by omega) hl2 rfl
        have := run_endRound (P := P) jump hl3
        rw [hrec] at this ⊢
        exact ⟨this, by rw [hrec] at hl3; exact hl3, World.putObj_heap_same (Array.getElem?_eq_some_iff.1 hl3).1, (World.putObj_heap_other (by omega)).trans (hk3.same _ _ (Nat.le_refl _) hk2 rfl)⟩
      rintro e a3 W3 hp
      cases e with
      | normal =>
        obtain ⟨hk3, hkp3, hi3⟩ := hp
        obtain ⟨hr, hl3, hl4, hk4⟩ := fin none W3 hk3
        exact ⟨_, _, hr, .inl ⟨rfl, ⟨hI.putObj _ hi3 (by omega) hl3 rfl, hl4, hk4⟩, hKt (hKt hw2 hkp3) (hKb _ _ _ _ (by omega) hl3 rfl rfl)⟩⟩
      | ret =>
        obtain ⟨hk3, hkp3, hi3⟩ := hp
        obtain ⟨hr, hl3, hl4, hk4⟩ := fin (some .ret) W3 hk3
        exact ⟨_, _, hr, .inr ⟨rfl, ⟨.ret, (hIx _).putObj _ hi3 (by omega) hl3 rfl, hl4, hk4⟩, hKt (hKt hw2 hkp3) (hKb _ _ _ _ (by omega) hl3 rfl rfl)⟩⟩
      | exit id =>
        obtain ⟨hk3, hkp3, hi3⟩ := hp
        obtain ⟨hr, hl3, hl4, hk4⟩ := fin (some (.exit id)) W3 hk3
        exact ⟨_, _, hr, .inr ⟨rfl, ⟨.exit id, (hIx _).putObj _ hi3 (by omega) hl3 rfl, hl4, hk4⟩, hKt (hKt hw2 hkp3) (hKb _ _ _ _ (by omega) hl3 rfl rfl)⟩⟩
      | goto t =>
        obtain ⟨hk3, hkp3, hi3⟩ := hp
        obtain ⟨hr, hl3, hl4, hk4⟩ := fin (some (.goto t)) W3 hk3
        exact ⟨_, _, hr, .inr ⟨rfl, ⟨.goto t, (hIx _).putObj _ hi3 (by omega) hl3 rfl, hl4, hk4⟩, hKt (hKt hw2 hkp3) (hKb _ _ _ _ (by omega) hl3 rfl rfl)⟩⟩
      | panic ch => exact hp.elim
      | outgrown => exact hp.elim
    · rintro e W2 ⟨⟨v, rfl⟩, (⟨hi, hl, hk⟩ | ⟨k, hle, c, hi, hl, hk⟩)⟩
      · exact ⟨none, _, by have := run_endLoop (P := P) hl (by rw [hrec]; simp); rw [hrec] at this; exact this, hdone _ _ (Nat.le_refl _) (hI.putObj _ hi (by omega) hl rfl) ((World.putObj_heap_other (by omega)).trans hk)⟩
      · exact ⟨some c, _, by have := run_endLoop (P := P) hl (by rw [hrec]; simp); rw [hrec] at this; exact this, hstop _ c k _ (Nat.le_refl _) hle ((hIx c).putObj _ hi (by omega) hl rfl) ((World.putObj_heap_other (by omega)).trans hk)⟩
end Go.Proofs.YtlaepkmnbbgbcaaGreatDoor
/- operands; what the lines of a code are; what the body of a range leaves as it was. -/
namespace Go.Proofs.YtlaepkmnbbgbcaaGreatDoor
open Go.RowKit Go.Instr Go.Shelf
set_option linter.unusedVariables false
set_option linter.unusedSimpArgs false
attribute [local go_sem] Oper.semAt_some

/-- How many operands. -/
def nOps (a b : Ck) : Nat := match b with | .none => (match a with | .none => 0 | _ => 1) | _ => 2
theorem CkV.none_iff {w : World} {v : Value} {k : Ck} (h : CkV w v k) : (v = .nilFunc ∧ k = .none) ∨ ((∃ f lb, v = .func (.func f) #[] lb) ∧ k ≠ .none) := by
  cases k with
  | none => exact .inl ⟨h, rfl⟩
  | btw lo hi => obtain ⟨b1, b2, e, -⟩ := h; exact .inr ⟨⟨_, _, e⟩, by simp⟩
  | idx f => obtain ⟨b, e, -⟩ := h; exact .inr ⟨⟨_, _, e⟩, by simp⟩
  | int => exact .inr ⟨⟨_, _, h⟩, by simp⟩
  | text => exact .inr ⟨⟨_, _, h⟩, by simp⟩
set_option maxRecDepth 100000 in
theorem operands_any {w : World} {nm : ByteArray} {va vb : Value} {a b : Ck} (ha : CkV w va a) (hb : CkV w vb b) :
    Calls Tryz.prog 86 #[.agg #[.string nm, va, vb]] w fun e w' => e = .returned (.int .i64 (nOps a b)) ∧ Ex w w' := by
  have q2 := neq_nil; have q4 := neq_fn
  obtain ⟨W1, hW1⟩ : ∃ W1, w.alloc (.cells #[.string nm, va, vb] 118) = W1 := ⟨_, rfl⟩
  obtain ⟨b0, hb0⟩ : ∃ b0, w.heap.size = b0 := ⟨_, rfl⟩
  have hX1 : Ex w W1 := by rw [← hW1]; exact (Keeps.refl _ w).alloc _
  have hB0 : Blk W1 b0 #[.string nm, va, vb] 118 := by rw [← hW1, ← hb0]; exact Blk.new w _ _
  have x1 : W1.cell? ⟨b0, 1, none⟩ = some va := (hB0.cell 1).trans rfl
  have x2 : W1.cell? ⟨b0, 2, none⟩ = some vb := (hB0.cell 2).trans rfl
  have HW1 := Lib.hid hW1; have Hb0 := Lib.hid hb0; have HX1 := Lib.hid hX1
  clear hW1 hb0 hX1 hB0
  rcases hb.none_iff with ⟨rfl, rfl⟩ | ⟨⟨f2, l2, rfl⟩, hk2⟩
  · rcases ha.none_iff with ⟨rfl, rfl⟩ | ⟨⟨f1, l1, rfl⟩, hk1⟩
    · have e : nOps .none .none = 0 := rfl
      rw [e]
      clear ha hb
      go_enter Tryz.func86, Tryz.ntmps86
      go_upto_region 1 with fail
      rw [HW1.out]
      try rw [Hb0.out]
      go_wp2_with fail
      go_ret
      exact ⟨rfl, HX1.out⟩
    · have e : nOps a .none = 1 := by cases a <;> first | rfl | exact (hk1 rfl).elim
      rw [e]
      clear ha hb hk1
      go_enter Tryz.func86, Tryz.ntmps86
      go_upto_region 1 with fail
      rw [HW1.out]
      try rw [Hb0.out]
      go_wp2_with fail
      go_ret
      exact ⟨rfl, HX1.out⟩
  · have e : nOps a b = 2 := by cases b <;> first | rfl | exact (hk2 rfl).elim
    rw [e]
    clear ha hb hk2
    go_enter Tryz.func86, Tryz.ntmps86
    go_upto_region 1 with fail
    rw [HW1.out]
    try rw [Hb0.out]
    go_wp2_with fail
    go_ret
    exact ⟨rfl, HX1.out⟩

/-! ### Lines -/
def descLine (d : De) : List UInt8 := [68, 69, 83, 67] ++ numsB [d.around, d.offset, d.cells, d.init, d.enter, d.do_, d.exit, d.stack, d.chain.length] ++ numsB d.chain ++ numsB d.up
def textLine (s : ByteArray) : List UInt8 := [84, 69, 88, 84, 32, 34] ++ s.data.toList ++ [34]
def insLine (x : Ins) : List UInt8 := match opFind x.op with
  | some o => o.name.data.toList ++ numsB ([x.a, x.b].take (nOps o.a o.b))
  | none => []
/-- The lines of a code without virtual patterns, labels and reals. -/
def linesL (c : Co) : List (List UInt8) := c.descs.map descLine ++ c.texts.map textLine ++ c.instrs.map insLine

/-! ### What the body leaves -/
/-- What no builder writes. -/
def prot (o : Obj) : Prop := (∃ es ck, o = .map es ck) ∨ ∃ c t fz, o = .cells c t fz ∧ t ≠ 5 ∧ t ≠ 100
structure KpL (B0 : Nat) (W W' : World) : Prop where
  low : Below B0 W W'
  keep : ∀ (k : Nat) (o : Obj), W.heap[k]? = some o → prot o → W'.heap[k]? = some o
theorem KpL.trans {B0 : Nat} {a b c : World} (h : KpL B0 a b) (k : KpL B0 b c) : KpL B0 a c :=
  ⟨h.low.trans k.low, fun i o h1 h2 => k.keep i o (h.keep i o h1 h2) h2⟩
theorem KpL.putObj {B0 l : Nat} {W : World} {o o' : Obj} (hl : B0 ≤ l) (h : W.heap[l]? = some o) (hc : o.isCells = false) (hw : o.isWalk = false) : KpL B0 W (W.putObj l o') :=
  ⟨⟨rfl, rfl, rfl, by simp [World.putObj], fun k hk => by simp only [World.putObj]; rw [Array.getElem?_setIfInBounds_ne (by omega)]⟩, fun k q hk hq => by
    have hne : l ≠ k := by
      rintro rfl
      rw [h] at hk; injection hk with hk; subst hk
      rcases hq with ⟨es, ck, rfl⟩ | ⟨c, t, fz, rfl, -⟩
      · cases hw
      · cases hc
    simp only [World.putObj]; rw [Array.getElem?_setIfInBounds_ne hne]; exact hk⟩
theorem KpL.of {B0 b : Nat} {W W' : World} {cs : Array Value} {fz : Nat × Nat} (hl : Below B0 W W') (hk : Lib.OthersKept 5 (some b) W W') (hb : W.heap[b]? = some (.cells cs 100 fz)) : KpL B0 W W' :=
  ⟨hl, fun k o h1 h2 => by
    refine hk k o h1 ?_ ?_
    · intro e; injection e with e; subst e
      rw [hb] at h1; injection h1 with h1; subst h1
      rcases h2 with ⟨es, ck, e⟩ | ⟨c, t, fz, e, -, hne⟩
      · cases e
      · injection e with _ e2 _; exact hne e2.symm
    · rintro c fz rfl
      rcases h2 with ⟨es, ck, e⟩ | ⟨c', t, fz', e, hne, -⟩
      · cases e
      · injection e with _ e2 _; exact hne e2.symm⟩
theorem KpL.blk {B0 : Nat} {W W' : World} (h : KpL B0 W W') {k : Nat} {c : Array Value} {t : TypeId} (hb : Blk W k c t) (h1 : t ≠ 5) (h2 : t ≠ 100) : Blk W' k c t :=
  h.keep k _ hb (.inr ⟨c, t, (0, 0), rfl, h1, h2⟩)
theorem KpL.ex {B0 : Nat} {w0 W W' : World} (h : Ex w0 W) (hb : w0.heap.size ≤ B0) (hB : B0 ≤ W.heap.size) (k : KpL B0 W W') : Ex w0 W' := ex_of_below h hb k.low hB
theorem KpL.ckv {B0 : Nat} {W W' : World} (h : KpL B0 W W') {v : Value} {k : Ck} (hv : CkV W v k) : CkV W' v k := by
  cases k with
  | none => exact hv
  | btw lo hi => obtain ⟨b1, b2, e, h1, h2⟩ := hv; exact ⟨b1, b2, e, h.blk h1 (by decide) (by decide), h.blk h2 (by decide) (by decide)⟩
  | idx f => obtain ⟨b, e, h1⟩ := hv; exact ⟨b, e, h.blk h1 (by decide) (by decide)⟩
  | int => exact hv
  | text => exact hv
theorem KpL.rd {B0 : Nat} {W W' : World} (h : KpL B0 W W') {m : Nat} {T : List Op1} (hr : RD W m T) : RD W' m T := by
  obtain ⟨F, ⟨es, ck, e1, e2, e3⟩, hall⟩ := hr
  refine ⟨F, ⟨es, ck, h.keep m _ e1 (.inl ⟨es, ck, rfl⟩), e2, e3⟩, fun j => ?_⟩
  have h3 := hall j
  cases hf : T.find? (fun o => decide (o.key = j)) with
  | none => rw [hf] at h3; exact h3
  | some o =>
    rw [hf] at h3
    obtain ⟨va, vb, e4, e5, e6⟩ := h3
    exact ⟨va, vb, e4, h.ckv e5, h.ckv e6⟩
end Go.Proofs.YtlaepkmnbbgbcaaGreatDoor
/- Two operations of a drawn region that can come next. -/
namespace Go.Proofs.YtlaepkmnbbgbcaaGreatDoor
open Go.RowKit Go.Instr
set_option linter.unusedVariables false
section
variable {r : Option Nat} {n : Nat} {P : Program} {ops : Array Oper} {Q : Exit → Act → World → Prop} {S : World → Prop} {f : Nat}
/-- Two operations that can come next. -/
theorem anyS_two {k : Nat} {listed : Array Bool} {a : Act} {w : World} (c d : Nat) {o o' : Oper} (hi : ops[c]? = some o) (hi' : ops[d]? = some o') (hr : Region.ready .any ops listed = [c, d])
    (h : wpListIn (WF r) n P ops (exitK (fun a' w' => (c = f ∨ S w') ∧ anyS r n P ops Q S f k (listed.setIfInBounds c true) a' w') Q) [o] a w)
    (h' : wpListIn (WF r) n P ops (exitK (fun a' w' => (d = f ∨ S w') ∧ anyS r n P ops Q S f k (listed.setIfInBounds d true) a' w') Q) [o'] a w) : anyS r n P ops Q S f (k + 1) listed a w :=
  ⟨fun h0 => (by rw [hr] at h0; cases h0), fun i hm => by
    rw [hr] at hm
    rcases List.mem_cons.1 hm with e | hm
    · subst e; exact opIn_of_list hi h
    · obtain rfl : i = d := by simpa using hm
      exact opIn_of_list hi' h'⟩
end
end Go.Proofs.YtlaepkmnbbgbcaaGreatDoor
