/- A region that draws its order: operations that come to the same in every world of S may come at any time; the others come one behind the other. -/
import Derived.Test.YtikigppfnhilhaaGPD1
import Derived.OrdersIn
import Derived.Still
import Derived.StillTail
import Derived.TacticsIn
import Derived.RangeFuncCalls
/- A region that draws its order: operations that come to the same in every world of S may come at any time; the others come one behind the other. -/
namespace Go.Proofs.Ytikigppfnhilhaa
open Go.RowKit Go.Instr
set_option linter.unusedVariables false
set_option linter.unusedSimpArgs false

/-- The wide fence, in a round or in none. -/
def WF (r : Option Nat) : Fence := { fn := fun _ => True, depth := none, alive := false, round := r }
@[simp, go_sem] theorem WF_fn (r : Option Nat) (f : FuncId) : (WF r).fn f = True := rfl
@[simp, go_sem] theorem WF_round (r : Option Nat) : (WF r).round = r := rfl
@[simp, go_sem] theorem WF_depth (r : Option Nat) : (WF r).depth = none := rfl
theorem WF_none : WF none = Fence.wide := rfl
theorem WF_some (l : Nat) : WF (some l) = Fence.wide.inRound l := rfl
theorem callsIn_WF {r : Option Nat} {n : Nat} {P : Program} {f : FuncId} {args : Array Value} {w : World} {R : Ending → World → Prop} (h : Calls P f args w R) : CallsIn (WF r) n P f args w R := by
  cases r with
  | none => exact callsIn_wide.2 h
  | some l => exact CallsIn.inRound l (callsIn_wide.2 h)

section
variable {r : Option Nat} {n : Nat} {P : Program} {ops : Array Oper} {Q : Exit → Act → World → Prop} {S : World → Prop} {f : Nat}

def Region.noDefer (ops : Array Oper) : Bool := ops.all fun o => match o.op with | .defer _ => false | _ => true
theorem noDefer_spec (h : Region.noDefer ops = true) {j : Nat} {o : Oper} (ho : ops[j]? = some o) (c : Call) : o.op ≠ .defer c := by
  intro heq
  have := Array.all_eq_true_iff_forall_mem.1 h o (Array.mem_of_getElem? ho)
  simp [heq] at this

theorem opIn_of_yields {i : Nat} {o : Oper} {v : Value} {a : Act} {w : World} (hd : Region.noDefer ops = true) (hi : ops[i]? = some o) (hy : YieldsAt P ops w o v a) {K : Act → World → Prop} (h : K (a.put o.dst v) w) :
    wpOpIn (WF r) n P ops Q i K a w := by
  unfold wpOpIn
  simp only [hi]
  rcases hy with ⟨hw, hv | ⟨hv, rfl⟩ | ⟨f, args, hv, hc⟩⟩ | ⟨hw, rfl⟩
  · simp only [hw, if_true, Oper.wpIn, Oper.semAt_eq _ _ _ (noDefer_spec hd hi), hv]; exact ⟨fun _ _ => trivial, h⟩
  · simp only [hw, if_true, Oper.wpIn, Oper.semAt_eq _ _ _ (noDefer_spec hd hi), hv]; exact ⟨fun _ _ => trivial, h⟩
  · simp only [hw, if_true, Oper.wpIn, Oper.semAt_eq _ _ _ (noDefer_spec hd hi), hv]
    refine ⟨fun _ _ => trivial, fun h => (by cases h), ?_⟩
    exact callsIn_WF (hc.mono fun e w'' ⟨h1, h2⟩ => by subst h1; subst h2; exact h)
  · simp only [hw, Bool.false_eq_true, if_false]; exact ⟨fun _ _ => trivial, h⟩

theorem yieldsAt_put {oi oj : Oper} {v : Value} (hap : oi.apart ops oj = true) (hsi : ∀ cs b, oi.op ≠ .select cs b) {a : Act} (hy : ∀ W, S W → YieldsAt P ops W oi v a) (u : Value) :
    ∀ W, S W → YieldsAt P ops W oi v (a.put oj.dst u) := fun W hW =>
  (hy W hW).of_same (execOp_put oi hsi a oj.dst u (Oper.apart_spec hap).2.2) (wanted_put oi a oj.dst u (Oper.apart_spec hap).2.2)

/-- What a quiet operation gives may be laid behind another one. -/
theorem opIn_put {j : Nat} {oi oj : Oper} {v : Value} (hd : Region.noDefer ops = true) (hj : ops[j]? = some oj) (hap : oi.apart ops oj = true) (hsi : ∀ cs b, oi.op ≠ .select cs b) (hsj : ∀ cs b, oj.op ≠ .select cs b)
    (hQ : ∀ c a w, Q (.panic c) (a.put oi.dst v) w → Q (.panic c) a w) {K : Act → World → Prop} {a : Act} {w : World}
    (hy : ∀ W, S W → YieldsAt P ops W oi v a) (h : wpOpIn (WF r) n P ops Q j K (a.put oi.dst v) w) :
    wpOpIn (WF r) n P ops Q j (fun a' w' => (∀ W, S W → YieldsAt P ops W oi v a') ∧ K (a'.put oi.dst v) w') a w := by
  obtain ⟨h1, h2, h3⟩ := Oper.apart_spec hap
  have keep := fun u => yieldsAt_put (S := S) hap hsi hy u
  unfold wpOpIn at *
  simp only [hj] at h ⊢
  rw [wanted_put oj a oi.dst v h1] at h
  split
  · rename_i hw
    simp only [hw, if_true] at h
    unfold Oper.wpIn at *
    refine ⟨fun _ _ => trivial, ?_⟩
    have h := h.2
    rw [Oper.semAt_eq _ _ _ (noDefer_spec hd hj)] at h ⊢
    rw [execOp_put oj hsj a oi.dst v h1] at h
    generalize (execOp a.eval oj).run P w = R at *
    cases R with
    | ok x w' =>
      cases x <;> simp only [Oper.uponIn] at h ⊢
      case value u => exact ⟨keep u, by rw [← Act.put_comm a v u h2]; exact h⟩
      case skip => exact ⟨keep _, by rw [← Act.put_comm a v undef h2]; exact h⟩
      case defer d =>
        refine ⟨fun W hW => ?_, ?_⟩
        · have := keep undef W hW
          exact YieldsAt.of_same (a := a.put oj.dst undef) this (by
            refine execOp_congr oi hsi fun x _ => ?_
            cases oj.dst <;> rfl) (by cases oj.dst <;> rfl)
        · rw [← Act.put_comm _ v undef h2, ← Act.put_defers]; exact h
      case enter f args =>
        refine ⟨h.1, CallsIn.mono h.2 fun e w'' he => ?_⟩
        cases e with
        | returned u => exact ⟨keep u, by rw [← Act.put_comm a v u h2]; exact he⟩
        | panicked c => exact hQ _ _ _ he
        | outgrown => exact he
      case row row args => exact ⟨h.1, RowsIn.mono h.2 fun u w'' he => ⟨keep u, by rw [← Act.put_comm a v u h2]; exact he⟩⟩
      case round l fn tmps assign body =>
        refine ⟨h.1, RoundIn.mono h.2 fun e w'' he => ?_⟩
        cases e with
        | returned u => exact ⟨keep u, by rw [← Act.put_comm a v u h2]; exact he⟩
        | panicked c => exact hQ _ _ _ he
        | outgrown => exact he
    | halt x w' =>
      cases x <;> simp only [Oper.uponIn] at h ⊢
      case panic u => exact hQ _ _ _ h
  · rename_i hw
    simp only [hw] at h
    exact ⟨fun _ _ => trivial, keep _, by rw [← Act.put_comm a v undef h2]; exact h.2⟩

/-- The region in any order; behind each operation but f the world is one of S. -/
def anyS (r : Option Nat) (n : Nat) (P : Program) (ops : Array Oper) (Q : Exit → Act → World → Prop) (S : World → Prop) (f : Nat) : Nat → Array Bool → Act → World → Prop
  | 0, listed, a, w => Region.ready .any ops listed = [] ∧ Q .normal a w
  | k + 1, listed, a, w =>
    (Region.ready .any ops listed = [] → Q .normal a w) ∧
    ∀ i ∈ Region.ready .any ops listed, wpOpIn (WF r) n P ops Q i (fun a' w' => (i = f ∨ S w') ∧ anyS r n P ops Q S f k (listed.setIfInBounds i true) a' w') a w

theorem anyS_sound : ∀ (k : Nat) (listed : Array Bool) (a : Act) (w : World), anyS r n P ops Q S f k listed a w → wpAnyIn (WF r) n P .any ops Q k listed a w
  | 0, _, _, _, h => h
  | k + 1, listed, a, w, h => ⟨h.1, fun i hi => wpOpIn_mono (fun a' w' h' => anyS_sound k _ a' w' h'.2) (h.2 i hi)⟩

/-- Does f wait for j (by at most so many steps)? -/
def Region.waitsB (ops : Array Oper) : Nat → Nat → Nat → Bool
  | 0, _, _ => false
  | k + 1, f, j => match ops[f]? with
    | none => false
    | some o => o.after.any fun e => Region.binds .any e && (e.on == j || Region.waitsB ops k e.on j)
/-- Does f wait for all others? -/
def Region.lastB (ops : Array Oper) (f : Nat) : Bool :=
  match ops[f]? with
  | none => true
  | some o => (List.range ops.size).all fun j => j == f || Region.waitsB ops 3 f j
/-- What is listed has all listed that it waits for. -/
def closedL (ops : Array Oper) (listed : Array Bool) : Prop := ∀ j oj, ops[j]? = some oj → listed.getD j false = true → ∀ e ∈ oj.after, Region.binds .any e = true → listed.getD e.on false = true
def Region.closedB (ops : Array Oper) (listed : Array Bool) : Bool :=
  (List.range ops.size).all fun j => match ops[j]? with
    | none => true
    | some oj => !listed.getD j false || oj.after.all fun e => !Region.binds .any e || listed.getD e.on false
theorem closedB_spec {listed : Array Bool} (h : Region.closedB ops listed = true) : closedL ops listed := by
  intro j oj hj hl e he hb
  simp only [Region.closedB, List.all_eq_true, List.mem_range] at h
  have := h j (Array.getElem?_eq_some_iff.1 hj).1
  simp only [hj, hl, Bool.not_true, Bool.false_or, Array.all_eq_true_iff_forall_mem, Bool.or_eq_true] at this
  exact (this e he).resolve_left (by simp [hb])
theorem waits_listed {listed : Array Bool} (hc : closedL ops listed) : ∀ (k f j : Nat) (o : Oper), ops[f]? = some o → (∀ e ∈ o.after, Region.binds .any e = true → listed.getD e.on false = true) → Region.waitsB ops k f j = true → listed.getD j false = true
  | 0, _, _, _, _, _, h => by simp [Region.waitsB] at h
  | k + 1, f, j, o, ho, hd, h => by
    simp only [Region.waitsB, ho] at h
    obtain ⟨e, he, hb⟩ := Array.any_eq_true'.1 h
    simp only [Bool.and_eq_true, Bool.or_eq_true, beq_iff_eq] at hb
    rcases hb.2 with h1 | h1
    · rw [← h1]; exact hd e he hb.1
    · cases hoe : ops[e.on]? with
      | none => cases k <;> simp [Region.waitsB, hoe] at h1
      | some oe => exact waits_listed hc k e.on j oe hoe (hc e.on oe hoe (hd e he hb.1)) h1
theorem closedL.set {listed : Array Bool} (hc : closedL ops listed) {i : Nat} (hi : i ∈ Region.ready .any ops listed) : closedL ops (listed.setIfInBounds i true) := by
  intro j oj hj hl e he hb
  obtain ⟨hun, oi, hoi, hall⟩ := mem_ready.1 hi
  by_cases hij : i = j
  · subst hij
    rw [hoi] at hj; injection hj with hj; subst hj
    exact getD_set_true (hall e he hb)
  · rw [getD_set_ne false hij] at hl
    exact getD_set_true (hc j oj hj hl e he hb)

theorem anyS_first {i : Nat} {oi : Oper} {v : Value} (hd : Region.noDefer ops = true) (hf : Region.lastB ops f = true) (hi : ops[i]? = some oi) (hsel : ∀ (j : Nat) (o : Oper) cs b, ops[j]? = some o → o.op ≠ .select cs b)
    (hQ : ∀ c a w, Q (.panic c) (a.put oi.dst v) w → Q (.panic c) a w) :
    ∀ (k : Nat) (listed : Array Bool) (a : Act) (w : World), closedL ops listed →
      (∀ j oj, ops[j]? = some oj → j ≠ i → listed.getD j true = false → (∀ e ∈ oj.after, Region.binds .any e = true → e.on ≠ i) → oi.apart ops oj = true) →
      i ∈ Region.ready .any ops listed → S w → (∀ W, S W → YieldsAt P ops W oi v a) →
      anyS r n P ops Q S f k (listed.setIfInBounds i true) (a.put oi.dst v) w → anyS r n P ops Q S f (k + 1) listed a w := by
  intro k
  induction k with
  | zero =>
    intro listed a w _ _ hr hS hy H
    refine ⟨fun h => (by rw [h] at hr; cases hr), fun j hj => ?_⟩
    by_cases hji : j = i
    · subst hji; exact opIn_of_yields hd hi (hy w hS) ⟨.inr hS, H⟩
    · have := ready_mono hj hji
      rw [H.1] at this
      cases this
  | succ k ih =>
    intro listed a w hcl hfree hr hS hy H
    refine ⟨fun h => (by rw [h] at hr; cases hr), fun j hj => ?_⟩
    by_cases hji : j = i
    · subst hji; exact opIn_of_yields hd hi (hy w hS) ⟨.inr hS, H⟩
    · have h1 := H.2 j (ready_mono hj hji)
      obtain ⟨hjun, oj, hoj, hall⟩ := mem_ready.1 hj
      have hnot : ∀ e ∈ oj.after, Region.binds .any e = true → e.on ≠ i := fun e he hb heq => by
        have h1 := hall e he hb
        have h0 := (mem_ready.1 hr).1
        rw [heq] at h1
        rcases Nat.lt_or_ge i listed.size with h' | h'
        · simp [h'] at h0 h1; rw [h0] at h1; cases h1
        · simp [Array.getElem?_eq_none h'] at h1
      have hjf : j ≠ f := by
        rintro rfl
        unfold Region.lastB at hf
        rw [hoj] at hf
        simp only [List.all_eq_true, List.mem_range] at hf
        have := hf i (Array.getElem?_eq_some_iff.1 hi).1
        simp only [Bool.or_eq_true, beq_iff_eq, Ne.symm hji, false_or] at this
        have h1 := waits_listed hcl 3 j i oj hoj hall this
        have h0 := (mem_ready.1 hr).1
        rcases Nat.lt_or_ge i listed.size with h' | h'
        · simp [h'] at h0 h1; rw [h0] at h1; cases h1
        · simp [Array.getElem?_eq_none h'] at h1
      have h2 := opIn_put (S := S) hd hoj (hfree j oj hoj hji hjun hnot) (fun cs b => hsel i oi cs b hi) (fun cs b => hsel j oj cs b hoj) hQ hy h1
      have hfree' : ∀ m om, ops[m]? = some om → m ≠ i → (listed.setIfInBounds j true).getD m true = false →
          (∀ e ∈ om.after, Region.binds .any e = true → e.on ≠ i) → oi.apart ops om = true := fun m om hm hmi hun hno => by
        refine hfree m om hm hmi ?_ hno
        by_cases hjm : j = m
        · subst hjm; exact hjun
        · rw [getD_set_ne true hjm] at hun; exact hun
      refine wpOpIn_mono (fun a' w' h3 => ?_) h2
      obtain ⟨h4, h5, h6⟩ := h3
      have hS' := h5.resolve_left hjf
      refine ⟨.inr hS', ih (listed.setIfInBounds j true) a' w' (hcl.set hj) hfree' (ready_mono hr (Ne.symm hji)) hS' h4 ?_⟩
      rw [Array.setIfInBounds_comm _ _ hji]
      exact h6

/-- A quiet operation, taken next. -/
theorem anyS_quiet {k : Nat} {listed : Array Bool} {a a2 : Act} {w : World} (i : Nat) {oi : Oper} {d : Nat} (hi : ops[i]? = some oi) (hdst : oi.dst = some d) (hsz : decide (d < a.tmps.size) = true)
    (hd : Region.noDefer ops = true) (hs : Region.noSelect ops = true) (hl : Region.lastB ops f = true) (hf : Region.free .any ops listed i = true) (hr : (Region.ready .any ops listed).contains i = true) (hcl : Region.closedB ops listed = true)
    (hQ : ∀ c a v w, Q (.panic c) (Act.put a oi.dst v) w → Q (.panic c) a w) (hS : S w)
    (h : ∀ W, S W → ∀ K : Act → Prop, K a2 → if Region.wanted oi (yielded ops a.tmps) then oi.still P a W K else K (a.put oi.dst undef))
    (hk : anyS r n P ops Q S f k (listed.setIfInBounds i true) a2 w) : anyS r n P ops Q S f (k + 1) listed a w := by
  have hst : ∀ W, S W → ∃ v, YieldsAt P ops W oi v a ∧ a.put oi.dst v = a2 := fun W hW =>
    yieldsAt_of_stOp (i := i) (K := fun a' => a' = a2) hi (by
      have := h W hW (fun a' => a' = a2) rfl
      unfold stOp; simp only [hi]; exact this)
  obtain ⟨v, hv, h2⟩ := hst w hS
  have hsz := of_decide_eq_true hsz
  have hall : ∀ W, S W → YieldsAt P ops W oi v a := fun W hW => by
    obtain ⟨u, hu, h3⟩ := hst W hW
    have : u = v := by
      rw [← h2, hdst] at h3
      have := congrArg (fun x : Act => x.tmps[d]?) h3
      simpa [Act.put, hsz] using this
    rw [← this]; exact hu
  rw [← h2] at hk
  exact anyS_first hd hl hi (Region.noSelect_spec hs) (fun c a w => hQ c a v w) k listed a w (closedB_spec hcl) (Region.free_spec hi hf) (by simpa using hr) hS hall hk

/-- The post of one operation. -/
def exitK (K : Act → World → Prop) (Q : Exit → Act → World → Prop) : Exit → Act → World → Prop
  | .normal, a, w => K a w
  | e, a, w => Q e a w
theorem opIn_of_list {i : Nat} {o : Oper} {K : Act → World → Prop} {a : Act} {w : World} (hi : ops[i]? = some o) (h : wpListIn (WF r) n P ops (exitK K Q) [o] a w) : wpOpIn (WF r) n P ops Q i K a w := by
  unfold wpOpIn
  simp only [hi]
  unfold wpListIn at h
  have hL : ∀ a w, wpListIn (WF r) n P ops (exitK K Q) [] a w → K a w := fun a w h => h
  split
  · rename_i hw
    simp only [hw, if_true] at h
    unfold Oper.wpIn at *
    refine ⟨h.1, ?_⟩
    have h := h.2
    generalize (Oper.semAt _ _ _).run P w = R at *
    cases R with
    | ok x w' =>
      cases x <;> simp only [Oper.uponIn] at h ⊢
      case value u => exact hL _ _ h
      case skip => exact hL _ _ h
      case defer d => exact hL _ _ h
      case enter g args =>
        refine ⟨h.1, CallsIn.mono h.2 fun e w'' he => ?_⟩
        cases e with
        | returned u => exact hL _ _ he
        | panicked c => exact he
        | outgrown => exact he
      case row row args => exact ⟨h.1, RowsIn.mono h.2 fun u w'' he => hL _ _ he⟩
      case round l fn tmps assign body =>
        refine ⟨h.1, RoundIn.mono h.2 fun e w'' he => ?_⟩
        cases e with
        | returned u => exact hL _ _ he
        | panicked c => exact he
        | outgrown => exact he
    | halt x w' =>
      cases x <;> simp only [Oper.uponIn] at h ⊢
      case panic u => exact h
  · rename_i hw
    simp only [hw] at h
    exact ⟨h.1, hL _ _ h.2⟩

/-- The one operation that can come next. -/
theorem anyS_only {k : Nat} {listed : Array Bool} {a : Act} {w : World} (c : Nat) {o : Oper} (hi : ops[c]? = some o) (hr : Region.ready .any ops listed = [c])
    (h : wpListIn (WF r) n P ops (exitK (fun a' w' => (c = f ∨ S w') ∧ anyS r n P ops Q S f k (listed.setIfInBounds c true) a' w') Q) [o] a w) : anyS r n P ops Q S f (k + 1) listed a w :=
  ⟨fun h0 => (by rw [hr] at h0; cases h0), fun i hi' => by
    rw [hr] at hi'
    obtain rfl : i = c := by simpa using hi'
    exact opIn_of_list hi h⟩
theorem anyS_done {listed : Array Bool} {a : Act} {w : World} (hr : Region.ready .any ops listed = []) (h : Q .normal a w) : ∀ k, anyS r n P ops Q S f k listed a w
  | 0 => ⟨hr, h⟩
  | _ + 1 => ⟨fun _ => h, by rw [hr]; simp⟩

theorem region_S {id : Nat} {a : Act} {w : World} (S : World → Prop) (f : Nat) (hm : P.follows .mixedOrders = true) (h : anyS r n P ops Q S f ops.size (Array.replicate ops.size false) a w.drew) : (Code.region id ops true).wpIn (WF r) n P Q a w :=
  wpIn_region_any hm (anyS_sound _ _ _ _ h)
theorem region_S_plain {id : Nat} {a : Act} {w : World} (S : World → Prop) (f : Nat) (hm : P.follows .mixedOrders = true) (h : anyS none n P ops Q S f ops.size (Array.replicate ops.size false) a w.drew) : (Code.region id ops true).wp P Q a w :=
  (wpIn_wide (n := n)).1 (region_S (r := none) S f hm h)
end
end Go.Proofs.Ytikigppfnhilhaa
