/- What a heap of the program is in memory: its struct, its blocks, its two maps. -/
import Derived.Test.YtikigppfnhilhaaGPD1
/- What a heap of the program is in memory: its struct, its blocks, its two maps. -/
namespace Go.Proofs.Ytikigppfnhilhaa
open Go.RowKit Go.Instr
set_option linter.unusedVariables false
set_option linter.unusedSimpArgs false

/-- A word. -/
structure Wd where
  tag : Int
  a : Int
  b : Int
  text : ByteArray
  man : Int
  exp : Int
deriving DecidableEq
def Wd.cells (x : Wd) : List Value := [.int .i64 x.tag, .int .i64 x.a, .int .i64 x.b, .string x.text, .int .i64 x.man, .int .i64 x.exp]
def Wd.val (x : Wd) : Value := .agg x.cells.toArray
def wd0 : Wd := ⟨0, 0, 0, ⟨#[]⟩, 0, 0⟩
def flatL (ws : List Wd) : List Value := ws.flatMap Wd.cells
def flat (ws : List Wd) : Array Value := (flatL ws).toArray
theorem flatL_length (ws : List Wd) : (flatL ws).length = ws.length * 6 := by
  induction ws with
  | nil => rfl
  | cons x ws ih => simp only [flatL, List.flatMap_cons, List.length_append] at *; rw [ih]; simp [Wd.cells]; omega
theorem flatL_append (a b : List Wd) : flatL (a ++ b) = flatL a ++ flatL b := by simp [flatL]
theorem flatL_get (ws : List Wd) (i : Nat) (x : Wd) (h : ws[i]? = some x) (j : Nat) (hj : j < 6) : (flatL ws)[i * 6 + j]? = x.cells[j]? := by
  induction ws generalizing i with
  | nil => simp at h
  | cons y ws ih =>
    simp only [flatL, List.flatMap_cons]
    cases i with
    | zero =>
      simp at h; subst h
      rw [List.getElem?_append_left (by simp [Wd.cells]; omega)]
      simp
    | succ i =>
      simp at h
      rw [List.getElem?_append_right (by simp [Wd.cells]; omega)]
      rw [← ih i h]
      simp only [flatL]
      congr 1
      simp [Wd.cells]; omega
theorem flat_get (ws : List Wd) (i : Nat) (x : Wd) (h : ws[i]? = some x) (j : Nat) (hj : j < 6) : (flat ws)[i * 6 + j]? = x.cells[j]? := by
  simpa [flat] using flatL_get ws i x h j hj
theorem flatL_set (ws : List Wd) (i : Nat) (x : Wd) (hi : i < ws.length) :
    flatL (ws.set i x) = (((((((flatL ws).set (i * 6) (.int .i64 x.tag)).set (i * 6 + 1) (.int .i64 x.a)).set (i * 6 + 2) (.int .i64 x.b)).set (i * 6 + 3) (.string x.text)).set (i * 6 + 4) (.int .i64 x.man)).set (i * 6 + 5) (.int .i64 x.exp)) := by
  induction ws generalizing i with
  | nil => simp at hi
  | cons y ws ih =>
    cases i with
    | zero => simp [flatL, Wd.cells]
    | succ i =>
      simp only [List.length_cons] at hi
      have := ih i (by omega)
      simp only [List.set_cons_succ, flatL, List.flatMap_cons] at *
      rw [this]
      simp only [Wd.cells, List.cons_append, List.nil_append]
      have e : ∀ k, (i + 1) * 6 + k = (i * 6 + k) + 1 + 1 + 1 + 1 + 1 + 1 := by intro k; omega
      have e0 : (i + 1) * 6 = (i * 6) + 1 + 1 + 1 + 1 + 1 + 1 := by omega
      simp only [e, e0, List.set_cons_succ]

/-- A block. -/
structure Bk where
  at_ : Int
  kind : Int
  ws : List Wd
deriving DecidableEq
/-- A block in memory: where its struct lies, and where its words lie. -/
structure PB where
  p : Nat
  arr : Nat
  b : Bk
def PB.ptr (x : PB) : Value := .pointer (some ⟨x.p, 0, none⟩)
def PB.cells (x : PB) : Array Value := #[.int .i64 x.b.at_, .int .i64 x.b.kind, .slice (some ⟨x.arr, 0, none⟩) x.b.ws.length x.b.ws.length]
structure PBlk (w : World) (x : PB) : Prop where
  st : Blk w x.p x.cells 91
  wo : Blk w x.arr (flat x.b.ws) 33

/-- A map value with its entries. -/
def MapV (w : World) (v : Value) (es : Array MapEntry) (clock : Nat) : Prop :=
  (v = .map none ∧ es = #[]) ∨ ∃ m, v = .map (some m) ∧ w.heap[m]? = some (.map es clock)

def bused (l : List Bk) : Int := (l.map fun b => (b.ws.length : Int) + 1).sum

/-- Blocks one behind the other, from an address on. -/
def Dense (f : Int) : List Bk → Prop
  | [] => True
  | b :: l => b.at_ = f ∧ Dense (f + (b.ws.length + 1)) l
theorem bused_cons (b : Bk) (l : List Bk) : bused (b :: l) = (b.ws.length : Int) + 1 + bused l := by simp [bused]
theorem bused_append (a b : List Bk) : bused (a ++ b) = bused a + bused b := by simp [bused]
theorem bused_nonneg (l : List Bk) : 0 ≤ bused l := by
  unfold bused
  induction l with
  | nil => simp
  | cons b l ih => simp only [List.map_cons, List.sum_cons]; omega
theorem Dense.append {f : Int} {a b : List Bk} : Dense f (a ++ b) ↔ Dense f a ∧ Dense (f + bused a) b := by
  induction a generalizing f with
  | nil => simp [Dense, bused]
  | cons x a ih =>
    simp only [List.cons_append, Dense, ih, bused_cons]
    rw [show f + ((x.ws.length : Int) + 1) + bused a = f + ((x.ws.length : Int) + 1 + bused a) from by omega, and_assoc]
theorem Dense.mem {f : Int} {l : List Bk} (h : Dense f l) {b : Bk} (hb : b ∈ l) : f ≤ b.at_ ∧ b.at_ + b.ws.length + 1 ≤ f + bused l := by
  induction l generalizing f with
  | nil => cases hb
  | cons x l ih =>
    obtain ⟨h1, h2⟩ := h
    have h0 := bused_nonneg l
    rw [bused_cons]
    rcases List.mem_cons.1 hb with rfl | hb
    · omega
    · have := ih h2 hb; omega

/-- A heap in memory. -/
structure PH where
  hp : Nat
  fy : Int
  Y : Int
  yu : Int
  yv : Value
  fo : Int
  O : Int
  ou : Int
  ov : Value
  av : Value
  rv : Value
  yb : List PB
  ob : List PB
  R : List Int
def PH.cells (x : PH) : Array Value := #[.int .i64 x.fy, .int .i64 x.Y, .int .i64 x.yu, x.yv, .int .i64 x.fo, .int .i64 x.O, .int .i64 x.ou, x.ov, x.av, x.rv]
def PH.all (x : PH) : List PB := x.yb ++ x.ob
def PH.fp (x : PH) (k : Nat) : Prop :=
  k = x.hp ∨ some k = x.yv.ownBlock ∨ some k = x.ov.ownBlock ∨ x.av = .map (some k) ∨ x.rv = .map (some k) ∨ k ∈ x.all.map PB.p ∨ k ∈ x.all.map PB.arr
def atOf (l : List PB) (k : Int) : Option Value := (l.find? fun y => y.b.at_ = k).map PB.ptr

/-- What is told of a heap's numbers. -/
structure PH.Ok (x : PH) : Prop where
  Y0 : 0 ≤ x.Y
  Y1 : x.Y ≤ 100000
  O0 : 0 ≤ x.O
  O1 : x.O ≤ 100000
  yu : x.yu = bused (x.yb.map PB.b)
  ou : x.ou = bused (x.ob.map PB.b)
  yu1 : x.yu ≤ x.Y
  ou1 : x.ou ≤ x.O
  fy : 0 < x.Y → x.fy = 1
  fo : 0 < x.O → x.fo = x.Y + 1
  nil : x.av = .map none ∨ x.rv = .map none → x.Y = 0 ∧ x.O = 0
  dy : Dense 1 (x.yb.map PB.b)
  do_ : Dense (x.Y + 1) (x.ob.map PB.b)
theorem bused_len (l : List Bk) : (l.length : Int) ≤ bused l := by
  induction l with
  | nil => simp [bused]
  | cons b l ih => rw [bused_cons]; simp only [List.length_cons]; omega
theorem bused_mem {l : List Bk} {b : Bk} (h : b ∈ l) : (b.ws.length : Int) + 1 ≤ bused l := by
  induction l with
  | nil => cases h
  | cons c l ih =>
    have hs : bused (c :: l) = (c.ws.length : Int) + 1 + bused l := by simp [bused]
    have h0 := bused_nonneg l
    rcases List.mem_cons.1 h with rfl | h
    · omega
    · have := ih h; omega
theorem PH.Ok.yu0 {x : PH} (h : x.Ok) : 0 ≤ x.yu := by rw [h.yu]; exact bused_nonneg _
theorem PH.Ok.ou0 {x : PH} (h : x.Ok) : 0 ≤ x.ou := by rw [h.ou]; exact bused_nonneg _
theorem PH.Ok.some {x : PH} (h : x.Ok) {y : PB} (hy : y ∈ x.all) : 0 < x.Y ∨ 0 < x.O := by
  rcases List.mem_append.1 hy with hy | hy
  · have := bused_mem (List.mem_map_of_mem (f := PB.b) hy); have := h.yu; have := h.yu1; omega
  · have := bused_mem (List.mem_map_of_mem (f := PB.b) hy); have := h.ou; have := h.ou1; omega
theorem PH.Ok.rv {x : PH} (h : x.Ok) {y : PB} (hy : y ∈ x.all) : x.rv ≠ .map none := fun e => by
  have := h.some hy; have := h.nil (.inr e); omega
theorem PH.Ok.len {x : PH} (h : x.Ok) {y : PB} (hy : y ∈ x.all) : y.b.ws.length ≤ 100000 := by
  rcases List.mem_append.1 hy with hy | hy
  · have := bused_mem (List.mem_map_of_mem (f := PB.b) hy); have := h.yu; have := h.yu1; have := h.Y1; omega
  · have := bused_mem (List.mem_map_of_mem (f := PB.b) hy); have := h.ou; have := h.ou1; have := h.O1; omega

structure HRep (w : World) (base : Nat) (x : PH) : Prop where
  blk : Blk w x.hp x.cells 81
  yrow : w.ownsRow base 89 1 x.yv x.yb.length (x.yb.map PB.ptr)
  orow : w.ownsRow base 89 1 x.ov x.ob.length (x.ob.map PB.ptr)
  rows : ∀ k, x.yv.ownBlock = some k → x.ov.ownBlock ≠ some k
  amap : ∃ es clock, MapV w x.av es clock ∧ IntEs es clock ∧ ∀ k, esGet es.toList k = atOf x.all k
  rmap : ∃ es clock, MapV w x.rv es clock ∧ IntEs es clock ∧ ∀ k, esGet es.toList k = if k ∈ x.R then some (.bool true) else none
  maps : ∀ k, x.av = .map (some k) → x.rv ≠ .map (some k)
  pbs : ∀ y ∈ x.all, PBlk w y
  ps : (x.all.map PB.p).Nodup
  arrs : (x.all.map PB.arr).Nodup
  base_ : ∀ k, x.fp k → base ≤ k
  ok : x.Ok

theorem MapV.lt {w : World} {m : Nat} {es : Array MapEntry} {clock : Nat} (h : MapV w (.map (some m)) es clock) : w.heap[m]? = some (.map es clock) := by
  rcases h with ⟨h, _⟩ | ⟨m', h, h'⟩
  · cases h
  · injection h with h; injection h with h; subst h; exact h'

theorem HRep.fp_lt {w : World} {base : Nat} {x : PH} (h : HRep w base x) (k : Nat) (hk : x.fp k) : k < w.heap.size := by
  rcases hk with rfl | hk | hk | hk | hk | hk | hk
  · exact h.blk.lt
  · exact (h.yrow.lt k hk.symm).2
  · exact (h.orow.lt k hk.symm).2
  · obtain ⟨es, c, hm, -⟩ := h.amap; rw [hk] at hm; exact (Array.getElem?_eq_some_iff.1 hm.lt).1
  · obtain ⟨es, c, hm, -⟩ := h.rmap; rw [hk] at hm; exact (Array.getElem?_eq_some_iff.1 hm.lt).1
  · obtain ⟨y, hy, rfl⟩ := List.mem_map.1 hk; exact (h.pbs y hy).st.lt
  · obtain ⟨y, hy, rfl⟩ := List.mem_map.1 hk; exact (h.pbs y hy).wo.lt

theorem ownsRow_keeps {w w' : World} {base : Nat} {e : TypeId} {size : Nat} {v : Value} {n : Nat} {xs : List Value} (h : w.ownsRow base e size v n xs)
    (hk : ∀ k, v.ownBlock = some k → w'.heap[k]? = w.heap[k]?) : w'.ownsRow base e size v n xs := by
  obtain ⟨h1, h2⟩ := h
  refine ⟨h1, ?_⟩
  rcases h2 with h2 | ⟨g, cap, cur, hv, hg, hh, r⟩
  · exact .inl h2
  · exact .inr ⟨g, cap, cur, hv, hg, by rw [hk g (by rw [hv]; rfl)]; exact hh, r⟩
theorem ownsRow_type {w : World} {base : Nat} {e : TypeId} {size : Nat} {v : Value} {n : Nat} {xs : List Value} (h : w.ownsRow base e size v n xs) {k : Nat} (hk : v.ownBlock = some k) : ∃ cur, Blk w k cur e := by
  rcases h.2 with ⟨hv, _⟩ | ⟨g, cap, cur, hv, _, hg, _⟩
  · rw [hv] at hk; cases hk
  · rw [hv] at hk; injection hk with hk; subst hk; exact ⟨cur, hg⟩
/-- A row stays where another type's block is written. -/
theorem ownsRow_set {w : World} {base : Nat} {e : TypeId} {size : Nat} {v : Value} {n : Nat} {xs : List Value} (h : w.ownsRow base e size v n xs) {a : Addr} {c : Array Value} {T : TypeId} (hb : Blk w a.block c T) (hT : T ≠ e) (u : Value) :
    (w.setCell a u).ownsRow base e size v n xs :=
  ownsRow_keeps h fun k hk => by
    obtain ⟨cur, hc⟩ := ownsRow_type h hk
    exact Below.heap_setCell _ _ _ _ (hc.ne hb hT.symm)
theorem MapV.keeps {w w' : World} {v : Value} {es : Array MapEntry} {clock : Nat} (h : MapV w v es clock) (hk : ∀ k, v = .map (some k) → w'.heap[k]? = w.heap[k]?) : MapV w' v es clock := by
  rcases h with h | ⟨m, h, h'⟩
  · exact .inl h
  · exact .inr ⟨m, h, by rw [hk m h]; exact h'⟩
theorem PBlk.keeps {w w' : World} {y : PB} (h : PBlk w y) (h1 : w'.heap[y.p]? = w.heap[y.p]?) (h2 : w'.heap[y.arr]? = w.heap[y.arr]?) : PBlk w' y :=
  ⟨h1.trans h.st, h2.trans h.wo⟩

/-- A heap stays where its own blocks stay. -/
theorem HRep.keeps {w w' : World} {base : Nat} {x : PH} (h : HRep w base x) (hk : ∀ k, x.fp k → w'.heap[k]? = w.heap[k]?) : HRep w' base x where
  blk := (hk _ (.inl rfl)).trans h.blk
  yrow := ownsRow_keeps h.yrow fun k e => hk k (.inr (.inl e.symm))
  orow := ownsRow_keeps h.orow fun k e => hk k (.inr (.inr (.inl e.symm)))
  rows := h.rows
  amap := let ⟨es, c, hm, r⟩ := h.amap; ⟨es, c, hm.keeps fun k e => hk k (.inr (.inr (.inr (.inl e)))), r⟩
  rmap := let ⟨es, c, hm, r⟩ := h.rmap; ⟨es, c, hm.keeps fun k e => hk k (.inr (.inr (.inr (.inr (.inl e))))), r⟩
  maps := h.maps
  pbs := fun y hy => (h.pbs y hy).keeps (hk _ (.inr (.inr (.inr (.inr (.inr (.inl (List.mem_map.2 ⟨y, hy, rfl⟩)))))))) (hk _ (.inr (.inr (.inr (.inr (.inr (.inr (List.mem_map.2 ⟨y, hy, rfl⟩))))))))
  ps := h.ps
  arrs := h.arrs
  base_ := h.base_
  ok := h.ok
theorem HRep.kept {S : Nat → Prop} {w w' : World} {base : Nat} {x : PH} (h : HRep w base x) (hk : Keeps S w w') (hs : ∀ k, x.fp k → ¬ S k) : HRep w' base x :=
  h.keeps fun k hx => hk.block k (h.fp_lt k hx) (hs k hx)
theorem HRep.drewN {w : World} {base : Nat} {x : PH} (h : HRep w base x) (n : Nat) : HRep (w.drewN n) base x := h.keeps fun _ _ => rfl
theorem HRep.drew {w : World} {base : Nat} {x : PH} (h : HRep w base x) : HRep w.drew base x := h.keeps fun _ _ => rfl
theorem HRep.alloc {w : World} {base : Nat} {x : PH} (h : HRep w base x) (o : Obj) : HRep (w.alloc o) base x := h.keeps fun k hk => Below.heap_alloc _ _ _ (h.fp_lt k hk)

theorem HRep.cell {w : World} {base : Nat} {x : PH} (h : HRep w base x) (i : Nat) : w.cell? ⟨x.hp, i, none⟩ = x.cells[i]? := h.blk.cell i
end Go.Proofs.Ytikigppfnhilhaa
