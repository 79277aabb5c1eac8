/- slices.Clone of words; lists of words that are read. -/
import Derived.Test.YtikigppfnhilhaaHQ
namespace Go.Proofs.Ytikigppfnhilhaa
open Go.RowKit Go.Instr
set_option linter.unusedVariables false
set_option linter.unusedSimpArgs false

theorem info_wordC : (Try.prog.info? 33).map (fun i => (i.zero, i.size, i.bytes)) = some (some (.agg #[.int .i64 0, .int .i64 0, .int .i64 0, .string ⟨#[]⟩, .int .i64 0, .int .i64 0]), 6, 56) := by kernel_rfl

/-- A slice value that reads as a list of words. -/
def RdW (w : World) (v : Value) (ws : List Wd) : Prop :=
  ∃ a c, v = .slice a ws.length c ∧ (a = none → ws = []) ∧ ∀ ad, a = some ad → ∀ j u, (flatL ws)[j]? = some u → w.cell? (ad.add j) = some u
def RdW.block (v : Value) (k : Nat) : Prop := v.ownBlock = some k
theorem RdW.keep {w w' : World} {v : Value} {ws : List Wd} (h : RdW w v ws) (hk : ∀ k, v.ownBlock = some k → w'.heap[k]? = w.heap[k]?) : RdW w' v ws := by
  obtain ⟨a, c, rfl, h1, h2⟩ := h
  refine ⟨a, c, rfl, h1, fun ad had j u hu => ?_⟩
  subst had
  rw [← h2 ad rfl j u hu]
  refine World.cell?_of_block ?_
  have : (ad.add j).block = ad.block := by unfold Addr.add; split <;> rfl
  rw [this]; exact hk ad.block rfl
/-- (Rows without words may lie anywhere.) -/
theorem RdW.ext {w w' : World} {v : Value} {ws : List Wd} (h : RdW w v ws) (hx : Ext w w') : RdW w' v ws := by
  obtain ⟨a, c, rfl, h1, h2⟩ := h
  exact ⟨a, c, rfl, h1, fun ad had j u hu => hx.cell (h2 ad had j u hu)⟩
theorem RdW.kept {S : Nat → Prop} {w w' : World} {v : Value} {ws : List Wd} (h : RdW w v ws) (hx : Keeps S w w') (hs : ∀ k, v.ownBlock = some k → ¬ S k) : RdW w' v ws := by
  obtain ⟨a, c, rfl, h1, h2⟩ := h
  refine ⟨a, c, rfl, h1, fun ad had j u hu => ?_⟩
  have hc := h2 ad had j u hu
  have hb : (ad.add j).block = ad.block := by unfold Addr.add; split <;> rfl
  rw [← hc]
  refine World.cell?_of_block (hx.block _ (World.block_lt_of_cell? _ _ hc) ?_)
  rw [hb]; subst had; exact hs _ rfl
theorem rdW_of_own {w : World} {base : Nat} {v : Value} {ws : List Wd} (h : w.ownsRow base 33 6 v ws.length (flatL ws)) : RdW w v ws := by
  have hc := fun g hg => h.cells (g := g) hg
  rcases h.2 with ⟨rfl, hl⟩ | ⟨g, cap, cur, rfl, _⟩
  · have : ws = [] := List.eq_nil_of_length_eq_zero hl
    subst this
    exact ⟨none, 0, rfl, fun _ => rfl, fun ad had => by cases had⟩
  · exact ⟨some ⟨g, 0, none⟩, cap, rfl, fun h => (by cases h), fun ad had j u hu => by injection had with had; subst had; exact hc g rfl j u hu⟩
theorem rdW_of_pb {w : World} {y : PB} (h : PBlk w y) : RdW w (.slice (some ⟨y.arr, 0, none⟩) y.b.ws.length y.b.ws.length) y.b.ws :=
  ⟨_, _, rfl, fun h => (by cases h), fun ad had j u hu => by
    injection had with had; subst had
    have : (⟨y.arr, 0, none⟩ : Addr).add j = ⟨y.arr, j, none⟩ := by unfold Addr.add; split <;> simp_all
    rw [this, h.wo.cell]; simpa [flat] using hu⟩
theorem flatL_one (ws : List Wd) : ∀ u ∈ flatL ws, u.oneCell' = true := by
  intro u hu
  simp only [flatL, List.mem_flatMap] at hu
  obtain ⟨x, _, hx⟩ := hu
  simp only [Wd.cells, List.mem_cons, List.not_mem_nil, or_false] at hx
  rcases hx with rfl | rfl | rfl | rfl | rfl | rfl <;> simp [Value.oneCell']

theorem run_eql_sl {P : Program} {t e : TypeId} (h : P.underlying t = some (.slice e)) (w : World) (a : Option Addr) (n c n' c' : Nat) :
    (binOp .eql t (.slice a n c) (.slice none n' c')).run P w = .ok (.bool a.isNone) w := by
  simp only [binOp]
  simp [Op.equal, Op.maxDepth, Lib.run_equalIn_slice_nil w 9999 t e a n c n' c' h]
set_option maxRecDepth 100000 in
set_option maxHeartbeats 400000 in
theorem CloneW_any {w : World} {v : Value} {ws : List Wd} (h : RdW w v ws) (hl : ws.length ≤ 2000000) :
    Calls Try.prog 38 #[v] w fun e w' => ∃ v', e = .returned v' ∧ w'.ownsRow w.heap.size 33 6 v' ws.length (flatL ws) ∧ Ext w w' := by
  have q := run_eql_sl (P := Try.prog) Try.underlying23
  obtain ⟨a, c, rfl, h1, h2⟩ := h
  cases a with
  | none =>
    have h1 := h1 rfl
    subst h1
    clear h2
    go_enter Try.func38, Try.ntmps38
    go_wp2
    go_ret
    exact ⟨_, rfl, World.ownsRow_nil w _ _ _, Ext.refl w⟩
  | some ad =>
    obtain ⟨i0, hi, hz0, hz1, hz2⟩ := info_parts info_wordC
    have h2 := Lib.hid (h2 ad rfl)
    clear h1
    go_enter Try.func38, Try.ntmps38
    go_wp2_with (at_builtin; refine wpList_append_fresh rfl _ _ 23 rfl w.heap.size 33 i0 _ 6 56 Try.underlying23 hi hz0 hz1 hz2 rfl (by decide) _ 0 [] rfl (World.ownsRow_made w #[] 0 (Nat.le_refl _) (by decide) rfl) ad ws.length c (flatL ws) rfl (flatL_length ws) ?c1 ?c2 ?c3 ?c4 ?c5 ?_)
    case c1 => exact fun j u hu => Ext.cell ((Ext.refl w).alloc _) (h2.out j u hu)
    case c2 => exact flatL_one ws
    case c3 => unfold maxLen; omega
    case c4 => omega
    case c5 => simp
    intro v' w1 hown hgrow hnil hfresh
    have Hown := Lib.hid hown
    have HK : Hid (Ext w w1) := Lib.hid (((Ext.refl w).alloc (.cells #[] 33)).grown hgrow fun k e => .inr (by cases e; exact Nat.le_refl _))
    clear hown hgrow hnil hfresh
    go_wp2
    go_ret
    refine ⟨_, rfl, ?_, HK.out⟩
    have := Hown.out
    simpa using this
end Go.Proofs.Ytikigppfnhilhaa
