/- What a well-formed code is, in plain Lean: what Check finds first. Codes in memory: lists that are read, by what an element's cells are. slices.IndexFunc at the elements of a code; texts, reals, places. Places, texts and reals of a code: isPlace, plain, real.Valid. slices.Equal at ints. -/
import Derived.Test.YtlaepkmnbbgbcaaGreatDoorGB2
import Derived.DataElems
import Derived.Shelf.Abstract
import Derived.Lib.ConvBytes
import Derived.Laws.AppendOwn
import Derived.Deep.QuietTactic
import Derived.BigQuiet
/- What a well-formed code is, in plain Lean: what Check finds first. -/
namespace Go.Proofs.YtlaepkmnbbgbcaaGreatDoor
open Go.RowKit
set_option linter.unusedVariables false
set_option linter.unusedSimpArgs false

/-- A virtual pattern of a descriptor. -/
structure Vt where
  id : Int
  part : Int
  level : Int
  desc : Int
deriving DecidableEq, Inhabited
/-- A descriptor. -/
structure De where
  around : Int
  chain : List Int
  up : List Int
  offset : Int
  cells : Int
  virts : List Vt
  init : Int
  enter : Int
  do_ : Int
  exit : Int
  stack : Int
deriving DecidableEq, Inhabited
/-- An instruction. -/
structure Ins where
  op : Int
  a : Int
  b : Int
deriving DecidableEq, Inhabited
/-- A code. -/
structure Co where
  descs : List De
  labels : List (Int × Int)
  texts : List ByteArray
  reals : List (Int × Int)
  instrs : List Ins
deriving Inhabited

def De0 : De := ⟨0, [], [], 0, 0, [], 0, 0, 0, 0, 0⟩
def Co.de (c : Co) (i : Int) : De := c.descs.getD i.toNat De0
/-- A text. -/
def plainB (s : ByteArray) : Bool := decide (s.size ≤ 2000) && s.data.toList.all fun b => decide (32 ≤ b.toNat) && decide (b.toNat ≤ 126)
def trimMinus : List UInt8 → List UInt8
  | [] => []
  | b :: r => if b = 45 then r else b :: r
/-- An integer, as a text. -/
def intB (s : ByteArray) : Bool :=
  let d := trimMinus s.data.toList
  !d.isEmpty && decide (d.length ≤ 200) && !(d.head? == some 48 && s.data.toList != [48]) && d.all fun b => decide (48 ≤ b.toNat) && decide (b.toNat ≤ 57)
/-- A real that is not negative. -/
def realB (x : Int × Int) : Bool :=
  if x.1 = 0 then decide (x.2 = 0) else decide (100000000000 ≤ x.1) && decide (x.1 < 1000000000000) && decide (-111 ≤ x.2) && decide (x.2 ≤ 88)
def Co.lenOf (c : Co) (f : Nat) : Nat :=
  if f = 102 then c.instrs.length else if f = 103 then c.labels.length else if f = 104 then c.descs.length else c.reals.length
/-- A number is what a check asks. -/
def ckB (c : Co) : Ck → Int → Bool
  | .none, n => decide (n = 0)
  | .btw lo hi, n => decide (lo ≤ n ∧ n ≤ hi)
  | .idx f, n => decide (0 ≤ n ∧ n < (c.lenOf f : Nat))
  | .int, n => decide (0 ≤ n ∧ n < (c.texts.length : Nat)) && intB (c.texts.getD n.toNat ⟨#[]⟩)
  | .text, n => decide (0 ≤ n ∧ n < (c.texts.length : Nat)) && plainB (c.texts.getD n.toNat ⟨#[]⟩)
def opFind (k : Int) : Option Op1 := opT.find? fun o => decide (o.key = k)
/-- The error of an instruction. -/
def insE (c : Co) (x : Ins) : Int :=
  match opFind x.op with
  | none => 1
  | some o => if ckB c o.a x.a && ckB c o.b x.b then 0 else 3
/-- A place or -1. -/
def placeB (c : Co) (n : Int) : Bool := decide (-1 ≤ n) && decide (n < (c.instrs.length : Nat))
def insideB (c : Co) (n : Int) : Bool := decide (0 ≤ n) && decide (n < (c.instrs.length : Nat))
/-- One level of a chain. -/
def levelB (c : Co) (d : De) (q : Nat) : Bool :=
  decide (0 ≤ d.chain.getD q 0) && decide (d.chain.getD q 0 < (c.descs.length : Nat)) && decide (0 ≤ d.up.getD q 0) && decide (d.up.getD q 0 ≤ 2000) &&
    (decide (¬ q < d.chain.length - 1) || decide ((c.de (d.chain.getD q 0)).chain = d.chain.take (q + 1)))
def chainB (c : Co) (i : Nat) (d : De) : Bool :=
  !d.chain.isEmpty && decide (d.chain.length ≤ 40) && decide (d.chain.getD (d.chain.length - 1) 0 = i) && decide (d.up.length = d.chain.length) && decide (d.up.getD (d.chain.length - 1) 0 = 0) && (List.range d.chain.length).all (levelB c d)
def virtB (c : Co) (d : De) (i : Nat) : Bool :=
  let v := d.virts.getD i default
  decide (0 ≤ v.id) && decide (v.id < 2000) && (decide (i = 0) || decide ((d.virts.getD (i - 1) default).id < v.id)) && decide (0 ≤ v.part) && decide (v.part < (d.chain.length : Nat)) && decide (0 ≤ v.level) && decide (v.level ≤ 2000) && decide (-1 ≤ v.desc) && decide (v.desc < (c.descs.length : Nat))
/-- The offset that a descriptor should have. -/
def beforeD (c : Co) (d : De) : Int :=
  if 1 < d.chain.length then wrap64 ((c.de (d.chain.getD (d.chain.length - 2) 0)).offset + (c.de (d.chain.getD (d.chain.length - 2) 0)).cells) else 0
/-- A descriptor is right. -/
def descB (c : Co) (i : Nat) : Bool :=
  let d := c.de i
  decide (-1 ≤ d.around) && decide (d.around < i) && chainB c i d && decide (0 ≤ d.offset) && decide (0 ≤ d.cells) && decide (d.offset ≤ 1500) && decide (d.cells ≤ 1500 - d.offset) && decide (d.offset = beforeD c d) && decide (d.virts.length ≤ 2000) &&
    (List.range d.virts.length).all (virtB c d) && placeB c d.init && placeB c d.enter && placeB c d.do_ && placeB c d.exit && decide (0 ≤ d.stack) && decide (d.stack ≤ 200)
/-- The first error of a code, and where it is. -/
def chk (c : Co) : Int × Int :=
  if c.instrs.length = 0 ∨ c.descs.length = 0 ∨ 20000 < c.instrs.length ∨ 2000 < c.descs.length ∨ 2000 < c.labels.length ∨ 2000 < c.texts.length ∨ 2000 < c.reals.length then (2, -1) else
  match (List.range c.descs.length).find? fun i => !descB c i with
  | some i => (3, i)
  | none =>
  match c.labels.findIdx? fun l => !insideB c l.1 || !insideB c l.2 with
  | some i => (3, i)
  | none =>
  match c.texts.findIdx? fun s => !plainB s with
  | some i => (3, i)
  | none =>
  match c.reals.findIdx? fun x => !realB x with
  | some i => (3, i)
  | none =>
  match c.instrs.findIdx? fun x => decide (insE c x ≠ 0) with
  | some i => (insE c (c.instrs.getD i default), i)
  | none => (0, -1)

/-- A code is well-formed. -/
structure Good (c : Co) : Prop where
  i1 : 1 ≤ c.instrs.length
  i2 : c.instrs.length ≤ 20000
  d1 : 1 ≤ c.descs.length
  d2 : c.descs.length ≤ 2000
  l2 : c.labels.length ≤ 2000
  t2 : c.texts.length ≤ 2000
  r2 : c.reals.length ≤ 2000
  descs : ∀ i, i < c.descs.length → descB c i = true
  labels : ∀ l ∈ c.labels, insideB c l.1 = true ∧ insideB c l.2 = true
  texts : ∀ s ∈ c.texts, plainB s = true
  reals : ∀ x ∈ c.reals, realB x = true
  instrs : ∀ x ∈ c.instrs, insE c x = 0
theorem insE_ne {c : Co} {x : Ins} (h : insE c x ≠ 0) : insE c x = 1 ∨ insE c x = 3 := by
  unfold insE at *
  split
  · exact .inl rfl
  · rename_i o ho
    rw [ho] at h
    simp only at h
    split
    · rename_i hc; rw [if_pos hc] at h; exact (h rfl).elim
    · exact .inr rfl
theorem good_iff (c : Co) : (chk c).1 = 0 ↔ Good c := by
  constructor
  · intro h
    unfold chk at h
    split at h
    · simp at h
    rename_i h0
    split at h
    · simp at h
    rename_i h1
    split at h
    · simp at h
    rename_i h2
    split at h
    · simp at h
    rename_i h3
    split at h
    · simp at h
    rename_i h4
    split at h
    · rename_i i hi
      exfalso
      have := List.findIdx?_eq_some_iff_getElem.1 hi
      obtain ⟨hl, hp, _⟩ := this
      simp only [decide_eq_true_eq] at hp
      rw [List.getD_eq_getElem?_getD, List.getElem?_eq_getElem hl] at h
      exact hp h
    · rename_i h5
      simp only [List.find?_eq_none, List.mem_range, Bool.not_eq_true', Bool.not_eq_false] at h1
      rw [List.findIdx?_eq_none_iff] at h2 h3 h4 h5
      refine ⟨by omega, by omega, by omega, by omega, by omega, by omega, by omega, h1, fun l hl => ?_, fun s hs => ?_, fun x hx => ?_, fun x hx => ?_⟩
      · have := h2 l hl; simpa using this
      · have := h3 s hs; simpa using this
      · have := h4 x hx; simpa using this
      · have := h5 x hx; simpa using this
  · intro g
    unfold chk
    rw [if_neg (by have := g.i1; have := g.i2; have := g.d1; have := g.d2; have := g.l2; have := g.t2; have := g.r2; omega)]
    have e1 : ((List.range c.descs.length).find? fun i => !descB c i) = none := by
      simp only [List.find?_eq_none, List.mem_range, Bool.not_eq_true', Bool.not_eq_false]; exact g.descs
    have e2 : (c.labels.findIdx? fun l => !insideB c l.1 || !insideB c l.2) = none := by
      rw [List.findIdx?_eq_none_iff]; intro l hl; simp [g.labels l hl]
    have e3 : (c.texts.findIdx? fun s => !plainB s) = none := by
      rw [List.findIdx?_eq_none_iff]; intro l hl; simp [g.texts l hl]
    have e4 : (c.reals.findIdx? fun x => !realB x) = none := by
      rw [List.findIdx?_eq_none_iff]; intro l hl; simp [g.reals l hl]
    have e5 : (c.instrs.findIdx? fun x => decide (insE c x ≠ 0)) = none := by
      rw [List.findIdx?_eq_none_iff]; intro l hl; simp [g.instrs l hl]
    rw [e1, e2, e3, e4, e5]

/-! ### The codes of the chapter -/
def sixD : De := ⟨-1, [0], [0], 0, 1, [], 4, -1, 7, -1, 3⟩
def sixI : List Ins := [⟨6, 0, 0⟩, ⟨20, 0, 0⟩, ⟨26, 0, 0⟩, ⟨55, 0, 0⟩, ⟨1, 0, 0⟩, ⟨10, 0, 0⟩, ⟨36, 0, 0⟩, ⟨1, 0, 0⟩, ⟨51, 0, 0⟩, ⟨36, 0, 0⟩]
def sixC : Co := ⟨[sixD], [], [⟨#[54]⟩], [], sixI⟩
def badC : Co := ⟨[sixD], [], [⟨#[48, 54]⟩], [], sixI⟩
def jumpC : Co := ⟨[⟨-1, [0], [0], 0, 1, [], -1, -1, 2, -1, 3⟩], [], [], [], [⟨42, 1, 0⟩, ⟨53, 5, 0⟩, ⟨36, 0, 0⟩]⟩
theorem six_chk : chk sixC = (0, -1) := by decide +kernel
theorem bad_chk : chk badC = (3, 4) := by decide +kernel
theorem jump_chk : chk jumpC = (0, -1) := by decide +kernel
end Go.Proofs.YtlaepkmnbbgbcaaGreatDoor
/- Codes in memory: lists that are read, by what an element's cells are. -/
namespace Go.Proofs.YtlaepkmnbbgbcaaGreatDoor
open Go.RowKit Go.Instr
set_option linter.unusedVariables false
set_option linter.unusedSimpArgs false

/-- w' is w but for new blocks. -/
abbrev Ex (w w' : World) : Prop := Keeps (fun _ => False) w w'
section
variable {α : Type} {enc : α → List Value}
/-- A slice value that reads as a list. -/
def RdL (enc : α → List Value) (w : World) (v : Value) (l : List α) : Prop :=
  ∃ a c, v = .slice a l.length c ∧ l.length ≤ c ∧ (a = none → l = []) ∧ ∀ ad, a = some ad → ∀ j u, (l.flatMap enc)[j]? = some u → w.cell? (ad.add j) = some u
theorem RdL.nil (w : World) : RdL enc w (.slice none 0 0) [] := ⟨none, 0, rfl, Nat.le_refl _, fun _ => rfl, fun ad had => by cases had⟩
theorem RdL.ext {w w' : World} {v : Value} {l : List α} (h : RdL enc w v l) (hx : Ex w w') : RdL enc w' v l := by
  obtain ⟨a, c, rfl, h0, h1, h2⟩ := h
  refine ⟨a, c, rfl, h0, h1, fun ad had j u hu => ?_⟩
  have hc := h2 ad had j u hu
  rw [← hc]
  exact World.cell?_of_block (hx.block _ (World.block_lt_of_cell? _ _ hc) id)
theorem RdL.kept {S : Nat → Prop} {w w' : World} {v : Value} {l : List α} (h : RdL enc w v l) (hx : Keeps S w w') (hs : ∀ k, v.ownBlock = some k → ¬ S k) : RdL enc w' v l := by
  obtain ⟨a, c, rfl, h0, h1, h2⟩ := h
  refine ⟨a, c, rfl, h0, h1, fun ad had j u hu => ?_⟩
  have hc := h2 ad had j u hu
  have hb : (ad.add j).block = ad.block := by unfold Addr.add; split <;> rfl
  rw [← hc]
  refine World.cell?_of_block (hx.block _ (World.block_lt_of_cell? _ _ hc) ?_)
  rw [hb]; subst had; exact hs _ rfl
theorem flat_get {k : Nat} (hk : ∀ x, (enc x).length = k) (l : List α) (i : Nat) (x : α) (hx : l[i]? = some x) (j : Nat) (hj : j < k) : (l.flatMap enc)[i * k + j]? = (enc x)[j]? := by
  induction l generalizing i with
  | nil => simp at hx
  | cons y r ih =>
    cases i with
    | zero =>
      simp only [List.getElem?_cons_zero, Option.some.injEq] at hx
      subst hx
      simp only [List.flatMap_cons, Nat.zero_mul, Nat.zero_add]
      rw [List.getElem?_append_left (by rw [hk]; exact hj)]
    | succ i =>
      simp only [List.getElem?_cons_succ] at hx
      rw [List.flatMap_cons, List.getElem?_append_right (by rw [hk, Nat.succ_mul]; omega), hk, ← ih i hx]
      congr 1
      rw [Nat.succ_mul]; omega
theorem flat_len {k : Nat} (hk : ∀ x, (enc x).length = k) (l : List α) : (l.flatMap enc).length = l.length * k := by
  induction l with
  | nil => simp
  | cons y r ih => rw [List.flatMap_cons, List.length_append, ih, hk, List.length_cons, Nat.succ_mul]; omega
/-- The cells of one element. -/
theorem RdL.at {k : Nat} (hk : ∀ x, (enc x).length = k) {w : World} {ad : Addr} {n c : Nat} {l : List α} (h : RdL enc w (.slice (some ad) n c) l) {i : Nat} {x : α} (hx : l[i]? = some x) (j : Nat) (hj : j < k) : w.cell? ((ad.add (i * k)).add j) = (enc x)[j]? := by
  obtain ⟨a, c', e, h0, h1, h2⟩ := h
  injection e with e _ _
  have hg := flat_get hk l i x hx j hj
  have hl : j < (enc x).length := by rw [hk]; exact hj
  rw [Addr.add_add, List.getElem?_eq_getElem hl]
  rw [List.getElem?_eq_getElem hl] at hg
  exact h2 ad e.symm _ _ hg
/-- The beginning of a list. -/
theorem RdL.take {k : Nat} (hk : ∀ x, (enc x).length = k) {w : World} {a : Option Addr} {n c : Nat} {l : List α} (h : RdL enc w (.slice a n c) l) (m : Nat) (hm : m ≤ l.length) : RdL enc w (.slice a m c) (l.take m) := by
  obtain ⟨a', c', e, h0, h1, h2⟩ := h
  injection e with e1 e2 e3
  subst e1; subst e3
  refine ⟨a, c, by rw [List.length_take, Nat.min_eq_left hm], by rw [List.length_take]; omega, fun e => by rw [h1 e]; simp, fun ad had j u hu => h2 ad had j u ?_⟩
  have : (l.flatMap enc) = ((l.take m).flatMap enc) ++ ((l.drop m).flatMap enc) := by rw [← List.flatMap_append, List.take_append_drop]
  rw [this, List.getElem?_append_left ((List.getElem?_eq_some_iff.1 hu).1)]
  exact hu
end

/-! ### The elements of a code -/
def encI (x : Int) : List Value := [.int .i64 x]
def encV (v : Vt) : List Value := [.int .i64 v.id, .int .i64 v.part, .int .i64 v.level, .int .i64 v.desc]
def encL (l : Int × Int) : List Value := [.int .i64 l.1, .int .i64 l.2]
def encS (s : ByteArray) : List Value := [.string s]
def encN (x : Ins) : List Value := [.int .i64 x.op, .int .i64 x.a, .int .i64 x.b]
/-- A descriptor in memory: its three slices are values. -/
structure DeV where
  d : De
  chain : Value
  up : Value
  virts : Value
def encD (x : DeV) : List Value := [.int .i64 x.d.around, x.chain, x.up, .int .i64 x.d.offset, .int .i64 x.d.cells, x.virts, .int .i64 x.d.init, .int .i64 x.d.enter, .int .i64 x.d.do_, .int .i64 x.d.exit, .int .i64 x.d.stack]
/-- The slices of a descriptor read as its lists. -/
structure RdDe (w : World) (x : DeV) : Prop where
  chain : RdL encI w x.chain x.d.chain
  up : RdL encI w x.up x.d.up
  virts : RdL encV w x.virts x.d.virts
theorem RdDe.ext {w w' : World} {x : DeV} (h : RdDe w x) (hx : Ex w w') : RdDe w' x := ⟨h.chain.ext hx, h.up.ext hx, h.virts.ext hx⟩
/-- A value of type Code reads as a code. -/
structure RdCo (w : World) (dv lv tv rv iv : Value) (c : Co) (xs : List DeV) : Prop where
  ds : RdL encD w dv xs
  de : ∀ x ∈ xs, RdDe w x
  eq : xs.map (·.d) = c.descs
  ls : RdL encL w lv c.labels
  ts : RdL encS w tv c.texts
  rs : RdL encL w rv c.reals
  is : RdL encN w iv c.instrs
theorem RdCo.ext {w w' : World} {dv lv tv rv iv : Value} {c : Co} {xs : List DeV} (h : RdCo w dv lv tv rv iv c xs) (hx : Ex w w') : RdCo w' dv lv tv rv iv c xs :=
  ⟨h.ds.ext hx, fun x hxx => (h.de x hxx).ext hx, h.eq, h.ls.ext hx, h.ts.ext hx, h.rs.ext hx, h.is.ext hx⟩
theorem RdCo.len {w : World} {dv lv tv rv iv : Value} {c : Co} {xs : List DeV} (h : RdCo w dv lv tv rv iv c xs) : xs.length = c.descs.length := by rw [← h.eq, List.length_map]
/-- How many elements the tables of a code have at most. -/
structure Big (c : Co) : Prop where
  d : c.descs.length ≤ 1000000
  l : c.labels.length ≤ 1000000
  t : c.texts.length ≤ 1000000
  r : c.reals.length ≤ 1000000
  i : c.instrs.length ≤ 1000000
  s : ∀ s ∈ c.texts, s.size ≤ 1000000
  e : ∀ d ∈ c.descs, d.chain.length ≤ 1000000 ∧ d.up.length ≤ 1000000 ∧ d.virts.length ≤ 1000000
theorem encI_len (x : Int) : (encI x).length = 1 := rfl
theorem encV_len (x : Vt) : (encV x).length = 4 := rfl
theorem encL_len (x : Int × Int) : (encL x).length = 2 := rfl
theorem encS_len (x : ByteArray) : (encS x).length = 1 := rfl
theorem encN_len (x : Ins) : (encN x).length = 3 := rfl
theorem encD_len (x : DeV) : (encD x).length = 11 := rfl
end Go.Proofs.YtlaepkmnbbgbcaaGreatDoor
/- slices.IndexFunc at the elements of a code; texts, reals, places. -/
namespace Go.Proofs.YtlaepkmnbbgbcaaGreatDoor
open Go.RowKit Go.Instr
set_option linter.unusedVariables false
set_option linter.unusedSimpArgs false
attribute [local go_sem] Oper.semAt_some

def idxI {α : Type} (p : α → Bool) (l : List α) : Int := match l.findIdx? p with | some i => (i : Nat) | none => -1
theorem idxI_at {α : Type} {p : α → Bool} {l : List α} {k : Nat} {u : α} (h : (l.take k).any p = false) (hu : l[k]? = some u) (hp : p u = true) : idxI p l = k := by
  have : l.findIdx? p = some k := by
    rw [List.findIdx?_eq_some_iff_getElem]
    obtain ⟨hk, e⟩ := List.getElem?_eq_some_iff.1 hu
    refine ⟨hk, by rw [e]; exact hp, fun j hj => ?_⟩
    have := List.any_eq_false.1 h l[j] (by rw [List.mem_take_iff_getElem]; exact ⟨j, by omega, rfl⟩)
    simpa using this
  unfold idxI; rw [this]
theorem idxI_none {α : Type} {p : α → Bool} {l : List α} (h : l.any p = false) : idxI p l = -1 := by
  have : l.findIdx? p = none := by
    rw [List.findIdx?_eq_none_iff]; intro x hx; simpa using List.any_eq_false.1 h x hx
  unfold idxI; rw [this]
theorem idxI_ge {α : Type} (p : α → Bool) (l : List α) : 0 ≤ idxI p l ↔ l.any p = true := by
  unfold idxI
  cases h : l.findIdx? p with
  | none =>
    rw [List.findIdx?_eq_none_iff] at h
    constructor
    · intro h0; simp at h0
    · intro h0
      obtain ⟨x, hx, hp⟩ := List.any_eq_true.1 h0
      rw [h x hx] at hp; cases hp
  | some i =>
    obtain ⟨hk, hp, _⟩ := List.findIdx?_eq_some_iff_getElem.1 h
    exact ⟨fun _ => List.any_eq_true.2 ⟨_, List.getElem_mem hk, hp⟩, fun _ => by simp⟩
def encB (b : UInt8) : List Value := [.int .u8 b.toNat]
theorem encB_len (x : UInt8) : (encB x).length = 1 := rfl
theorem take_any {α : Type} {p : α → Bool} {l : List α} {k : Nat} {u : α} (h : (l.take k).any p = false) (hu : l[k]? = some u) (hp : p u = false) : (l.take (k + 1)).any p = false := by
  rw [List.take_add_one, hu, List.any_append, h]; simp [Option.toList, hp]

set_option maxRecDepth 100000 in
set_option maxHeartbeats 1000000 in
theorem IndexB_any {f : Nat} {lb : Array Value} (eg : ∀ args w, (callFunc f args).run Tryz.prog w = .ok (.enter f args) w) {w : World} {v : Value} {l : List (UInt8)} (h : RdL encB w v l) (hl : l.length ≤ 2000000) (p : UInt8 → Bool)
    (hf : ∀ u ∈ l, ∀ W, Ex w W → Calls Tryz.prog f (#[.int .u8 u.toNat] ++ lb) W fun e W' => e = .returned (.bool (p u)) ∧ Ex W W') :
    Calls Tryz.prog 154 #[v, .func (.func f) #[] lb] w fun e w' => e = .returned (.int .i64 (idxI p l)) ∧ Ex w w' := by
  obtain ⟨a, c, rfl, h0, h1, h2⟩ := id h
  generalize hI : idxI p l = I
  cases a with
  | none =>
    have h1 := h1 rfl
    subst h1
    have : I = -1 := by rw [← hI]; rfl
    subst this
    clear h2 hI
    go_enter Tryz.func154, Tryz.ntmps154
    go_wp2
    go_loop [8] (fun i => i = .int .i64 0) (fun _ => 0)
    case atStart => rfl
    case round =>
      subst hrel
      go_wp2
      go_ret
      exact ⟨rfl, Keeps.refl _ w⟩
  | some ad =>
    have H := Lib.hid h
    have HI := Lib.hid hI
    clear h0 h1 h2 h hI
    go_enter Tryz.func154, Tryz.ntmps154
    go_wp2
    go_loopw [8] (fun i wr => ∃ k : Nat, k ≤ l.length ∧ i = .int .i64 k ∧ Hid (Ex w wr) ∧ Hid ((l.take k).any p = false)) (fun i wr => l.length - (intOf i).toNat)
    case atStart => exact ⟨0, Nat.zero_le _, rfl, Keeps.refl _ _, by simp [Hid]⟩
    case round =>
      obtain ⟨k, hk, rfl, HX, HP⟩ := hrel
      by_cases hlt : k < l.length
      · have hu : l[k]? = some l[k] := List.getElem?_eq_getElem hlt
        have hR := H.out.ext HX.out
        obtain ⟨A, hA⟩ : ∃ A, ad.add (k * 1) = A := ⟨_, rfl⟩
        have c0 : wr.cell? (A.add 0) = some (.int .u8 l[k].toNat) := by rw [← hA]; exact (hR.at encB_len hu 0 (by omega)).trans rfl
        rw [Addr.add_zero'] at c0
        have hcl := hf l[k] (List.getElem_mem hlt) wr HX.out
        have Hcl := Lib.hid hcl; have Hu := Lib.hid hu; have Hf := Lib.hid hf
        clear hcl hu hf hR
        rw [Nat.mul_one] at hA
        go_wp2_with fail
        refine (Hcl.out).mono ?_
        rintro e w2 ⟨rfl, hx⟩
        have HX2 := Lib.hid (HX.out.trans hx)
        clear hx HX
        cases hp : p l[k] with
        | true =>
          have e1 := idxI_at HP.out Hu.out hp
          rw [HI.out] at e1
          subst e1
          go_wp2
          go_ret
          exact ⟨rfl, HX2.out⟩
        | false =>
          have HP2 := Lib.hid (take_any HP.out Hu.out hp)
          go_wp2
          go_roundw
          case rel => exact ⟨k + 1, by omega, by go_num, HX2, HP2⟩
          case measure => simp [intOf]; omega
      · have : k = l.length := by omega
        subst this
        have e1 : idxI p l = -1 := idxI_none (by have := HP.out; rwa [List.take_length] at this)
        rw [HI.out] at e1
        subst e1
        go_wp2
        go_ret
        exact ⟨rfl, HX.out⟩

set_option maxRecDepth 100000 in
set_option maxHeartbeats 1000000 in
theorem IndexS_any {f : Nat} {lb : Array Value} (eg : ∀ args w, (callFunc f args).run Tryz.prog w = .ok (.enter f args) w) {w : World} {v : Value} {l : List (ByteArray)} (h : RdL encS w v l) (hl : l.length ≤ 2000000) (p : ByteArray → Bool)
    (hf : ∀ u ∈ l, ∀ W, Ex w W → Calls Tryz.prog f (#[.string u] ++ lb) W fun e W' => e = .returned (.bool (p u)) ∧ Ex W W') :
    Calls Tryz.prog 66 #[v, .func (.func f) #[] lb] w fun e w' => e = .returned (.int .i64 (idxI p l)) ∧ Ex w w' := by
  obtain ⟨a, c, rfl, h0, h1, h2⟩ := id h
  generalize hI : idxI p l = I
  cases a with
  | none =>
    have h1 := h1 rfl
    subst h1
    have : I = -1 := by rw [← hI]; rfl
    subst this
    clear h2 hI
    go_enter Tryz.func66, Tryz.ntmps66
    go_wp2
    go_loop [8] (fun i => i = .int .i64 0) (fun _ => 0)
    case atStart => rfl
    case round =>
      subst hrel
      go_wp2
      go_ret
      exact ⟨rfl, Keeps.refl _ w⟩
  | some ad =>
    have H := Lib.hid h
    have HI := Lib.hid hI
    clear h0 h1 h2 h hI
    go_enter Tryz.func66, Tryz.ntmps66
    go_wp2
    go_loopw [8] (fun i wr => ∃ k : Nat, k ≤ l.length ∧ i = .int .i64 k ∧ Hid (Ex w wr) ∧ Hid ((l.take k).any p = false)) (fun i wr => l.length - (intOf i).toNat)
    case atStart => exact ⟨0, Nat.zero_le _, rfl, Keeps.refl _ _, by simp [Hid]⟩
    case round =>
      obtain ⟨k, hk, rfl, HX, HP⟩ := hrel
      by_cases hlt : k < l.length
      · have hu : l[k]? = some l[k] := List.getElem?_eq_getElem hlt
        have hR := H.out.ext HX.out
        obtain ⟨A, hA⟩ : ∃ A, ad.add (k * 1) = A := ⟨_, rfl⟩
        have c0 : wr.cell? (A.add 0) = some (.string l[k]) := by rw [← hA]; exact (hR.at encS_len hu 0 (by omega)).trans rfl
        rw [Addr.add_zero'] at c0
        have hcl := hf l[k] (List.getElem_mem hlt) wr HX.out
        have Hcl := Lib.hid hcl; have Hu := Lib.hid hu; have Hf := Lib.hid hf
        clear hcl hu hf hR
        rw [Nat.mul_one] at hA
        go_wp2_with fail
        refine (Hcl.out).mono ?_
        rintro e w2 ⟨rfl, hx⟩
        have HX2 := Lib.hid (HX.out.trans hx)
        clear hx HX
        cases hp : p l[k] with
        | true =>
          have e1 := idxI_at HP.out Hu.out hp
          rw [HI.out] at e1
          subst e1
          go_wp2
          go_ret
          exact ⟨rfl, HX2.out⟩
        | false =>
          have HP2 := Lib.hid (take_any HP.out Hu.out hp)
          go_wp2
          go_roundw
          case rel => exact ⟨k + 1, by omega, by go_num, HX2, HP2⟩
          case measure => simp [intOf]; omega
      · have : k = l.length := by omega
        subst this
        have e1 : idxI p l = -1 := idxI_none (by have := HP.out; rwa [List.take_length] at this)
        rw [HI.out] at e1
        subst e1
        go_wp2
        go_ret
        exact ⟨rfl, HX.out⟩

set_option maxRecDepth 100000 in
set_option maxHeartbeats 1000000 in
theorem IndexL_any {f : Nat} {lb : Array Value} (eg : ∀ args w, (callFunc f args).run Tryz.prog w = .ok (.enter f args) w) {w : World} {v : Value} {l : List (Int × Int)} (h : RdL encL w v l) (hl : l.length ≤ 2000000) (p : Int × Int → Bool)
    (hf : ∀ u ∈ l, ∀ W, Ex w W → Calls Tryz.prog f (#[.agg #[.int .i64 u.1, .int .i64 u.2]] ++ lb) W fun e W' => e = .returned (.bool (p u)) ∧ Ex W W') :
    Calls Tryz.prog 64 #[v, .func (.func f) #[] lb] w fun e w' => e = .returned (.int .i64 (idxI p l)) ∧ Ex w w' := by
  obtain ⟨a, c, rfl, h0, h1, h2⟩ := id h
  generalize hI : idxI p l = I
  cases a with
  | none =>
    have h1 := h1 rfl
    subst h1
    have : I = -1 := by rw [← hI]; rfl
    subst this
    clear h2 hI
    go_enter Tryz.func64, Tryz.ntmps64
    go_wp2
    go_loop [8] (fun i => i = .int .i64 0) (fun _ => 0)
    case atStart => rfl
    case round =>
      subst hrel
      go_wp2
      go_ret
      exact ⟨rfl, Keeps.refl _ w⟩
  | some ad =>
    have H := Lib.hid h
    have HI := Lib.hid hI
    clear h0 h1 h2 h hI
    go_enter Tryz.func64, Tryz.ntmps64
    go_wp2
    go_loopw [8] (fun i wr => ∃ k : Nat, k ≤ l.length ∧ i = .int .i64 k ∧ Hid (Ex w wr) ∧ Hid ((l.take k).any p = false)) (fun i wr => l.length - (intOf i).toNat)
    case atStart => exact ⟨0, Nat.zero_le _, rfl, Keeps.refl _ _, by simp [Hid]⟩
    case round =>
      obtain ⟨k, hk, rfl, HX, HP⟩ := hrel
      by_cases hlt : k < l.length
      · have hu : l[k]? = some l[k] := List.getElem?_eq_getElem hlt
        have hR := H.out.ext HX.out
        obtain ⟨A, hA⟩ : ∃ A, ad.add (k * 2) = A := ⟨_, rfl⟩
        have c0 : wr.cell? (A.add 0) = some (.int .i64 l[k].1) := by rw [← hA]; exact (hR.at encL_len hu 0 (by omega)).trans rfl
        have c1 : wr.cell? (A.add (0 + 1)) = some (.int .i64 l[k].2) := by rw [← hA]; exact (hR.at encL_len hu 1 (by omega)).trans rfl
        rw [Addr.add_zero'] at c0
        rw [Addr.add_succ'] at c1
        have hcl := hf l[k] (List.getElem_mem hlt) wr HX.out
        have Hcl := Lib.hid hcl; have Hu := Lib.hid hu; have Hf := Lib.hid hf
        clear hcl hu hf hR
        go_wp2_with fail
        refine (Hcl.out).mono ?_
        rintro e w2 ⟨rfl, hx⟩
        have HX2 := Lib.hid (HX.out.trans hx)
        clear hx HX
        cases hp : p l[k] with
        | true =>
          have e1 := idxI_at HP.out Hu.out hp
          rw [HI.out] at e1
          subst e1
          go_wp2
          go_ret
          exact ⟨rfl, HX2.out⟩
        | false =>
          have HP2 := Lib.hid (take_any HP.out Hu.out hp)
          go_wp2
          go_roundw
          case rel => exact ⟨k + 1, by omega, by go_num, HX2, HP2⟩
          case measure => simp [intOf]; omega
      · have : k = l.length := by omega
        subst this
        have e1 : idxI p l = -1 := idxI_none (by have := HP.out; rwa [List.take_length] at this)
        rw [HI.out] at e1
        subst e1
        go_wp2
        go_ret
        exact ⟨rfl, HX.out⟩

set_option maxRecDepth 100000 in
set_option maxHeartbeats 1000000 in
theorem IndexR_any {f : Nat} {lb : Array Value} (eg : ∀ args w, (callFunc f args).run Tryz.prog w = .ok (.enter f args) w) {w : World} {v : Value} {l : List (Int × Int)} (h : RdL encL w v l) (hl : l.length ≤ 2000000) (p : Int × Int → Bool)
    (hf : ∀ u ∈ l, ∀ W, Ex w W → Calls Tryz.prog f (#[.agg #[.int .i64 u.1, .int .i64 u.2]] ++ lb) W fun e W' => e = .returned (.bool (p u)) ∧ Ex W W') :
    Calls Tryz.prog 69 #[v, .func (.func f) #[] lb] w fun e w' => e = .returned (.int .i64 (idxI p l)) ∧ Ex w w' := by
  obtain ⟨a, c, rfl, h0, h1, h2⟩ := id h
  generalize hI : idxI p l = I
  cases a with
  | none =>
    have h1 := h1 rfl
    subst h1
    have : I = -1 := by rw [← hI]; rfl
    subst this
    clear h2 hI
    go_enter Tryz.func69, Tryz.ntmps69
    go_wp2
    go_loop [8] (fun i => i = .int .i64 0) (fun _ => 0)
    case atStart => rfl
    case round =>
      subst hrel
      go_wp2
      go_ret
      exact ⟨rfl, Keeps.refl _ w⟩
  | some ad =>
    have H := Lib.hid h
    have HI := Lib.hid hI
    clear h0 h1 h2 h hI
    go_enter Tryz.func69, Tryz.ntmps69
    go_wp2
    go_loopw [8] (fun i wr => ∃ k : Nat, k ≤ l.length ∧ i = .int .i64 k ∧ Hid (Ex w wr) ∧ Hid ((l.take k).any p = false)) (fun i wr => l.length - (intOf i).toNat)
    case atStart => exact ⟨0, Nat.zero_le _, rfl, Keeps.refl _ _, by simp [Hid]⟩
    case round =>
      obtain ⟨k, hk, rfl, HX, HP⟩ := hrel
      by_cases hlt : k < l.length
      · have hu : l[k]? = some l[k] := List.getElem?_eq_getElem hlt
        have hR := H.out.ext HX.out
        obtain ⟨A, hA⟩ : ∃ A, ad.add (k * 2) = A := ⟨_, rfl⟩
        have c0 : wr.cell? (A.add 0) = some (.int .i64 l[k].1) := by rw [← hA]; exact (hR.at encL_len hu 0 (by omega)).trans rfl
        have c1 : wr.cell? (A.add (0 + 1)) = some (.int .i64 l[k].2) := by rw [← hA]; exact (hR.at encL_len hu 1 (by omega)).trans rfl
        rw [Addr.add_zero'] at c0
        rw [Addr.add_succ'] at c1
        have hcl := hf l[k] (List.getElem_mem hlt) wr HX.out
        have Hcl := Lib.hid hcl; have Hu := Lib.hid hu; have Hf := Lib.hid hf
        clear hcl hu hf hR
        go_wp2_with fail
        refine (Hcl.out).mono ?_
        rintro e w2 ⟨rfl, hx⟩
        have HX2 := Lib.hid (HX.out.trans hx)
        clear hx HX
        cases hp : p l[k] with
        | true =>
          have e1 := idxI_at HP.out Hu.out hp
          rw [HI.out] at e1
          subst e1
          go_wp2
          go_ret
          exact ⟨rfl, HX2.out⟩
        | false =>
          have HP2 := Lib.hid (take_any HP.out Hu.out hp)
          go_wp2
          go_roundw
          case rel => exact ⟨k + 1, by omega, by go_num, HX2, HP2⟩
          case measure => simp [intOf]; omega
      · have : k = l.length := by omega
        subst this
        have e1 : idxI p l = -1 := idxI_none (by have := HP.out; rwa [List.take_length] at this)
        rw [HI.out] at e1
        subst e1
        go_wp2
        go_ret
        exact ⟨rfl, HX.out⟩
end Go.Proofs.YtlaepkmnbbgbcaaGreatDoor
/- Places, texts and reals of a code: isPlace, plain, real.Valid. -/
namespace Go.Proofs.YtlaepkmnbbgbcaaGreatDoor
open Go.RowKit Go.Instr
set_option linter.unusedVariables false
set_option linter.unusedSimpArgs false
attribute [local go_sem] Oper.semAt_some

theorem isPlace_any (da la ta ra ia : Option Addr) (dn ln tn rn ino dc lc tc rc ic : Nat) (hl : ino ≤ 1000000) (n : Int) (w : World) :
    Calls Tryz.prog 121 #[codeV (.slice da dn dc) (.slice la ln lc) (.slice ta tn tc) (.slice ra rn rc) (.slice ia ino ic), .int .i64 n] w fun e w' => e = .returned (.bool (decide (-1 ≤ n) && decide (n < (ino : Nat)))) ∧ Ex w w' := by
  unfold codeV
  by_cases k1 : -1 ≤ n
  · by_cases k2 : n < (ino : Nat)
    · go_enter Tryz.func121, Tryz.ntmps121
      go_wp2
      go_ret
      exact ⟨by simp [k1, k2], (Keeps.refl _ w).alloc _⟩
    · go_enter Tryz.func121, Tryz.ntmps121
      go_wp2
      go_ret
      exact ⟨by simp [k1, k2], (Keeps.refl _ w).alloc _⟩
  · go_enter Tryz.func121, Tryz.ntmps121
    go_wp2
    go_ret
    exact ⟨by simp; omega, (Keeps.refl _ w).alloc _⟩

/-- What plain's closure asks. -/
def odd (b : UInt8) : Bool := !(decide (32 ≤ b.toNat) && decide (b.toNat ≤ 126))
theorem plain1_any (b : UInt8) (w : World) : Calls Tryz.prog 123 #[.int .u8 b.toNat] w fun e w' => e = .returned (.bool (odd b)) ∧ Ex w w' := by
  by_cases k1 : ((b.toNat : Nat) : Int) < 32
  · go_enter Tryz.func123, Tryz.ntmps123
    go_wp2
    go_ret
    have e : odd b = true := by simp only [odd, Bool.not_eq_true', Bool.and_eq_false_iff, decide_eq_false_iff_not]; omega
    rw [e]; exact ⟨rfl, Keeps.refl _ w⟩
  · go_enter Tryz.func123, Tryz.ntmps123
    go_wp2
    go_ret
    have e : odd b = decide (126 < (b.toNat : Int)) := by
      rw [Bool.eq_iff_iff]; simp only [odd, Bool.not_eq_true', Bool.and_eq_false_iff, decide_eq_false_iff_not, decide_eq_true_eq]; omega
    rw [e]; exact ⟨rfl, Keeps.refl _ w⟩
theorem enters_plain1 (args : Array Value) (w : World) : (callFunc 123 args).run Tryz.prog w = .ok (.enter 123 args) w := enters_of Tryz.func123 (by kernel_rfl) rfl args w
set_option maxRecDepth 100000 in
set_option maxHeartbeats 1000000 in
theorem contains_any {w : World} {v : Value} {l : List UInt8} (h : RdL encB w v l) (hl : l.length ≤ 2000000) :
    Calls Tryz.prog 122 #[v, .func (.func 123) #[] #[]] w fun e w' => e = .returned (.bool (l.any odd)) ∧ Ex w w' := by
  go_enter Tryz.func122, Tryz.ntmps122
  generalize hI : idxI odd l = I
  have HI := Lib.hid hI
  have hc : ∀ u ∈ l, ∀ W, Ex w W → Calls Tryz.prog 123 (#[.int .u8 u.toNat] ++ #[]) W fun e W' => e = .returned (.bool (odd u)) ∧ Ex W W' := fun u _ W _ => plain1_any u W
  have hcall := IndexB_any enters_plain1 h hl odd hc
  rw [hI] at hcall
  clear hI hc
  go_wp2_with (go_at_call 154; refine hcall.mono ?_; rintro e w2 ⟨rfl, hx⟩)
  go_ret
  have hi := idxI_ge odd l
  rw [HI.out] at hi
  refine ⟨?_, hx⟩
  have hq : l.any odd = decide (0 ≤ I) := by
    by_cases h0 : 0 ≤ I
    · rw [hi.1 h0]; simp [h0]
    · cases hq : l.any odd
      · simp [h0]
      · exact (h0 (hi.2 hq)).elim
  rw [hq]; rfl
theorem bytesWorld_ex (w : World) (e : TypeId) (s : ByteArray) : Ex w (Lib.bytesWorld w e s) :=
  ⟨rfl, rfl, rfl, by rw [Lib.bytesWorld_size]; omega, fun k hk _ => Lib.bytesWorld_at_old w e s k hk⟩
theorem bytes_len (s : ByteArray) : s.data.toList.length = s.size := Array.length_toList
theorem bytesWorld_rd (w : World) (e : TypeId) (s : ByteArray) : RdL encB (Lib.bytesWorld w e s) (.slice (some ⟨w.heap.size, 0, none⟩) s.size (grownCap w s.size 0 e)) s.data.toList := by
  refine ⟨_, _, by rw [bytes_len], by rw [bytes_len]; exact grownCap_ge w s.size 0 e, fun h => (by cases h), fun ad had j u hu => ?_⟩
  injection had with had; subst had
  have hj : j < s.data.toList.length := by have := (List.getElem?_eq_some_iff.1 hu).1; rw [flat_len encB_len] at this; omega
  have hg := flat_get encB_len s.data.toList j _ (List.getElem?_eq_getElem hj) 0 (by omega)
  rw [Nat.mul_one, Nat.add_zero, hu] at hg
  have hc := Lib.bytesWorld_cell w e s j (by rw [← bytes_len]; exact hj)
  have ea : (⟨w.heap.size, 0, none⟩ : Addr).add j = ⟨w.heap.size, j, none⟩ := by unfold Addr.add; split <;> simp_all
  rw [ea, hc]
  rw [List.getD_eq_getElem?_getD, List.getElem?_eq_getElem hj]
  exact hg.symm
theorem plainB_small {s : ByteArray} (h : (s.size : Int) ≤ 2000) : plainB s = !s.data.toList.any odd := by
  unfold plainB
  rw [show decide (s.size ≤ 2000) = true from decide_eq_true (by omega), Bool.true_and, List.not_any_eq_all_not]
  congr 1
  funext b
  simp only [odd, Bool.not_not]
set_option maxRecDepth 100000 in
theorem plain_any (s : ByteArray) (hs : s.size ≤ 1000000) (w : World) : Calls Tryz.prog 68 #[.string s] w fun e w' => e = .returned (.bool (plainB s)) ∧ Ex w w' := by
  by_cases k1 : (s.size : Int) ≤ 2000
  · have q := Lib.run_convert_string_bytes (P := Tryz.prog) w 9 98 5 s Tryz.underlying9 Tryz.underlying98 Tryz.underlying5
    go_enter Tryz.func68, Tryz.ntmps68
    have HX : Hid (Ex w (Lib.bytesWorld w 5 s)) := Lib.hid (bytesWorld_ex w 5 s)
    have HR := Lib.hid (bytesWorld_rd w 5 s)
    generalize Lib.bytesWorld w 5 s = W at q HX HR
    generalize grownCap w s.size 0 5 = g at q HR
    have HN := Lib.hid (bytes_len s)
    have HC : Hid (plainB s = !s.data.toList.any odd) := Lib.hid (plainB_small k1)
    have hcall := contains_any HR.out (by rw [HN.out]; omega)
    generalize s.data.toList.any odd = o at HC hcall
    have HCall := Lib.hid hcall
    clear hcall
    go_wp2_with (go_at_call 122; refine HCall.out.mono ?_; rintro e w2 ⟨rfl, hx⟩; have HX2 := Lib.hid (HX.out.trans hx); clear hx)
    go_ret
    rw [HC.out]
    exact ⟨rfl, HX2.out⟩
  · go_enter Tryz.func68, Tryz.ntmps68
    go_wp2_with fail
    go_ret
    exact ⟨by unfold plainB; simp; omega, Keeps.refl _ w⟩
set_option maxRecDepth 100000 in
theorem size_any (n : Int) (hn : -9223372036854775808 ≤ n ∧ n ≤ 9223372036854775807) (w : World) : Calls Tryz.prog 124 #[.int .i64 n] w fun e w' => e = .returned (.int .i64 (if n < 0 then wrap64 (-n) else n)) ∧ w' = w := by
  by_cases k1 : n < 0
  · go_enter Tryz.func124, Tryz.ntmps124
    go_wp2
    go_ret
    exact ⟨by simp [k1], rfl⟩
  · go_enter Tryz.func124, Tryz.ntmps124
    go_wp2
    go_ret
    exact ⟨by simp [k1], rfl⟩
end Go.Proofs.YtlaepkmnbbgbcaaGreatDoor
/- slices.Equal at ints. -/
namespace Go.Proofs.YtlaepkmnbbgbcaaGreatDoor
open Go.RowKit Go.Instr
set_option linter.unusedVariables false
set_option linter.unusedSimpArgs false
attribute [local go_sem] Oper.semAt_some

theorem take_eq_succ {α : Type} {l m : List α} {k : Nat} {x : α} (h : l.take k = m.take k) (h1 : l[k]? = some x) (h2 : m[k]? = some x) : l.take (k + 1) = m.take (k + 1) := by
  rw [List.take_add_one, List.take_add_one, h, h1, h2]
set_option maxRecDepth 100000 in
set_option maxHeartbeats 1000000 in
theorem EqualI_any {w : World} {v1 v2 : Value} {l m : List Int} (h1 : RdL encI w v1 l) (h2 : RdL encI w v2 m) (hl : l.length ≤ 2000000) (hm : m.length ≤ 2000000) :
    Calls Tryz.prog 79 #[v1, v2] w fun e w' => e = .returned (.bool (decide (l = m))) ∧ ∃ q, w' = w.drewN q := by
  obtain ⟨a1, c1, rfl, -, n1, -⟩ := id h1
  obtain ⟨a2, c2, rfl, -, n2, -⟩ := id h2
  generalize hI : decide (l = m) = I
  by_cases hlen : l.length = m.length
  · have H1 := Lib.hid h1; have H2 := Lib.hid h2; have HI := Lib.hid hI; have HL := Lib.hid hlen
    have hlen' : (l.length : Int) = (m.length : Int) := by rw [hlen]
    clear h1 h2 hI hlen
    go_enter Tryz.func79, Tryz.ntmps79
    go_wp2
    go_loopw [13] (fun i wr => ∃ k : Nat, k ≤ l.length ∧ i = .int .i64 k ∧ (∃ q, wr = w.drewN q) ∧ Hid (l.take k = m.take k)) (fun i wr => l.length - (intOf i).toNat)
    case atStart => exact ⟨0, Nat.zero_le _, rfl, ⟨0, rfl⟩, by simp [Hid]⟩
    case round =>
      obtain ⟨k, hk, rfl, ⟨q, rfl⟩, HP⟩ := hrel
      by_cases hlt : k < l.length
      · have hlt2 : k < m.length := by rw [← HL.out]; exact hlt
        have hu : l[k]? = some l[k] := List.getElem?_eq_getElem hlt
        have hv : m[k]? = some m[k] := List.getElem?_eq_getElem hlt2
        obtain ⟨ad1, rfl⟩ : ∃ ad, a1 = some ad := by
          cases a1 with
          | none => have := n1 rfl; subst this; simp at hlt
          | some ad => exact ⟨ad, rfl⟩
        obtain ⟨ad2, rfl⟩ : ∃ ad, a2 = some ad := by
          cases a2 with
          | none => have := n2 rfl; subst this; simp at hlt2
          | some ad => exact ⟨ad, rfl⟩
        obtain ⟨A, hA⟩ : ∃ A, ad1.add k = A := ⟨_, rfl⟩
        obtain ⟨B, hB⟩ : ∃ B, ad2.add k = B := ⟨_, rfl⟩
        have f1 : w.cell? A = some (.int .i64 l[k]) := by
          have := H1.out.at encI_len hu 0 (by omega)
          rw [Addr.add_zero', Nat.mul_one, hA] at this; exact this.trans rfl
        have f2 : w.cell? B = some (.int .i64 m[k]) := by
          have := H2.out.at encI_len hv 0 (by omega)
          rw [Addr.add_zero', Nat.mul_one, hB] at this; exact this.trans rfl
        have Hu := Lib.hid hu; have Hv := Lib.hid hv
        clear hu hv n1 n2
        by_cases he : l[k] = m[k]
        · have HP2 : Hid (l.take (k + 1) = m.take (k + 1)) := take_eq_succ HP.out Hu.out (by rw [he]; exact Hv.out)
          generalize l[k] = X at *
          generalize m[k] = Y at *
          subst he
          go_wp2
          go_quiet (fail)
          go_wp2
          go_roundw
          case rel => exact ⟨k + 1, by omega, by go_num, ⟨_, rfl⟩, HP2⟩
          case measure => simp [intOf]; omega
        · have hne : l ≠ m := by
            rintro rfl
            exact he rfl
          have e1 : I = false := by rw [← HI.out]; simp [hne]
          subst e1
          generalize l[k] = X at *
          generalize m[k] = Y at *
          go_wp2
          go_quiet (fail)
          go_wp2
          go_ret
          exact ⟨rfl, _, World.drewN_drewN _ _ _⟩
      · have : k = l.length := by omega
        subst this
        have hle : l = m := by
          have := HP.out
          rw [List.take_length, HL.out, List.take_length] at this; exact this
        have e1 : I = true := by rw [← HI.out]; simp [hle]
        subst e1
        go_wp2
        go_ret
        exact ⟨rfl, q, rfl⟩
  · have hne : l ≠ m := by rintro rfl; exact hlen rfl
    have e1 : I = false := by rw [← hI]; simp [hne]
    subst e1
    have : ¬ ((l.length : Int) = (m.length : Int)) := by omega
    clear hI
    go_enter Tryz.func79, Tryz.ntmps79
    go_wp2
    go_ret
    exact ⟨rfl, 0, rfl⟩
end Go.Proofs.YtlaepkmnbbgbcaaGreatDoor
