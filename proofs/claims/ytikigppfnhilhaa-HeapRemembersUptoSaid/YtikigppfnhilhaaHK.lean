/- Steps that write blocks of some types alone. -/
import Derived.Test.YtikigppfnhilhaaHC
import Derived.Test.YtikigppfnhilhaaHG
import Derived.Test.YtikigppfnhilhaaHI
namespace Go.Proofs.Ytikigppfnhilhaa
open Go.RowKit Go.Instr
set_option linter.unusedVariables false
set_option linter.unusedSimpArgs false

/-- Blocks of cells of a type of T may have changed; all else stands. -/
structure TKeep (T : TypeId → Bool) (w w' : World) : Prop where
  os : w'.os = w.os
  tape : w'.tape = w.tape
  output : w'.output = w.output
  size : w.heap.size ≤ w'.heap.size
  keep : ∀ (k : Nat) (o : Obj), w.heap[k]? = some o → (∀ c t f, o = .cells c t f → T t = false) → w'.heap[k]? = some o
theorem TKeep.refl (T : TypeId → Bool) (w : World) : TKeep T w w := ⟨rfl, rfl, rfl, Nat.le_refl _, fun _ _ h _ => h⟩
theorem TKeep.trans {T : TypeId → Bool} {a b c : World} (h : TKeep T a b) (k : TKeep T b c) : TKeep T a c :=
  ⟨k.os.trans h.os, k.tape.trans h.tape, k.output.trans h.output, Nat.le_trans h.size k.size, fun i o hi ho => k.keep i o (h.keep i o hi ho) ho⟩
theorem TKeep.of_ext {T : TypeId → Bool} {a b : World} (h : Ext a b) : TKeep T a b :=
  ⟨h.os, h.tape, h.output, h.size, fun k o hk _ => (h.heap k (Array.getElem?_eq_some_iff.1 hk).1).trans hk⟩
theorem TKeep.alloc {T : TypeId → Bool} {a b : World} (h : TKeep T a b) (o : Obj) : TKeep T a (b.alloc o) := h.trans (.of_ext ((Ext.refl b).alloc o))
theorem TKeep.drew {T : TypeId → Bool} {a b : World} (h : TKeep T a b) : TKeep T a b.drew := h.trans (.of_ext (Ext.refl b).drew)
theorem TKeep.drewN {T : TypeId → Bool} {a b : World} (h : TKeep T a b) (n : Nat) : TKeep T a (b.drewN n) := h.trans (.of_ext ((Ext.refl b).drewN n))
theorem TKeep.setCell {T : TypeId → Bool} {a b : World} (h : TKeep T a b) {p : Addr} {c : Array Value} {t : TypeId} (hb : Blk b p.block c t) (ht : T t = true) (v : Value) : TKeep T a (b.setCell p v) :=
  h.trans ⟨rfl, rfl, rfl, by simp, fun k o hk ho => by
    refine (Below.heap_setCell _ _ _ _ ?_).trans hk
    rintro rfl
    unfold Blk at hb; rw [hk] at hb; injection hb with hb; subst hb
    have := ho c t (0, 0) rfl; rw [ht] at this; cases this⟩
theorem TKeep.grown {T : TypeId → Bool} {a b c : World} {v : Value} (h : TKeep T a b) (hg : b.grownBy c v.ownBlock) {base : Nat} {e : TypeId} {size n : Nat} {xs : List Value} (hv : b.ownsRow base e size v n xs) (he : T e = true) : TKeep T a c :=
  h.trans ⟨hg.os, hg.tape, hg.output, hg.size, fun k o hk ho => by
    refine (hg.block k (Array.getElem?_eq_some_iff.1 hk).1 fun e' => ?_).trans hk
    obtain ⟨cur, hc⟩ := ownsRow_type hv e'.symm
    unfold Blk at hc; rw [hk] at hc; injection hc with hc; subst hc
    have := ho _ _ _ rfl; rw [he] at this; cases this⟩
theorem TKeep.mono {T T' : TypeId → Bool} {a b : World} (h : TKeep T a b) (ht : ∀ t, T t = true → T' t = true) : TKeep T' a b :=
  ⟨h.os, h.tape, h.output, h.size, fun k o hk ho => h.keep k o hk fun c t f e => by
    have := ho c t f e
    cases hh : T t with
    | false => rfl
    | true => rw [ht t hh] at this; cases this⟩
theorem TKeep.blk {T : TypeId → Bool} {a b : World} (h : TKeep T a b) {k : Nat} {c : Array Value} {t : TypeId} (hb : Blk a k c t) (ht : T t = false) : Blk b k c t :=
  h.keep k _ hb fun c' t' f e => by injection e with _ e; subst e; exact ht
theorem TKeep.obj {T : TypeId → Bool} {a b : World} (h : TKeep T a b) {k : Nat} {o : Obj} (hb : a.heap[k]? = some o) (ho : o.isCells = false) : b.heap[k]? = some o :=
  h.keep k _ hb fun c' t' f e => by subst e; cases ho
theorem TKeep.row {T : TypeId → Bool} {a b : World} (h : TKeep T a b) {base : Nat} {e : TypeId} {size n : Nat} {v : Value} {xs : List Value} (hv : a.ownsRow base e size v n xs) (he : T e = false) : b.ownsRow base e size v n xs :=
  ownsRow_keeps hv fun k hk => by
    obtain ⟨cur, hc⟩ := ownsRow_type hv hk
    exact (h.blk hc he).trans hc.symm
theorem TKeep.mapV {T : TypeId → Bool} {a b : World} (h : TKeep T a b) {v : Value} {es : Array MapEntry} {c : Nat} (hv : MapV a v es c) : MapV b v es c := by
  rcases hv with hv | ⟨m, hm, hv⟩
  · exact .inl hv
  · exact .inr ⟨m, hm, h.obj hv rfl⟩
theorem TKeep.hrep {T : TypeId → Bool} {a b : World} (h : TKeep T a b) (h1 : T 81 = false) (h2 : T 89 = false) (h3 : T 91 = false) (h4 : T 33 = false) {base : Nat} {x : PH} (hx : HRep a base x) : HRep b base x where
  blk := h.blk hx.blk h1
  yrow := h.row hx.yrow h2
  orow := h.row hx.orow h2
  rows := hx.rows
  amap := let ⟨es, c, hm, r⟩ := hx.amap; ⟨es, c, h.mapV hm, r⟩
  rmap := let ⟨es, c, hm, r⟩ := hx.rmap; ⟨es, c, h.mapV hm, r⟩
  maps := hx.maps
  pbs := fun y hy => ⟨h.blk (hx.pbs y hy).st h3, h.blk (hx.pbs y hy).wo h4⟩
  ps := hx.ps
  arrs := hx.arrs
  base_ := hx.base_
  ok := hx.ok
theorem TKeep.keepP {T : TypeId → Bool} {a b : World} (h : TKeep T a b) (h1 : T 89 = false) (h2 : T 75 = false) : KeepP a b := fun k c t hb ht => h.blk hb (by rcases ht with rfl | rfl; exact h1; exact h2)
theorem TKeep.others {T : TypeId → Bool} {a b : World} (h : TKeep T a b) : KeepsOthers a b := ⟨h.size, fun k o hk ho => h.obj hk ho⟩

theorem cells_new (w : World) (c : List Value) (t : TypeId) : ∀ j u, c[j]? = some u → (w.alloc (.cells c.toArray t)).cell? ((⟨w.heap.size, 0, none⟩ : Addr).add j) = some u := by
  intro j u hj
  have : (⟨w.heap.size, 0, none⟩ : Addr).add j = ⟨w.heap.size, j, none⟩ := by unfold Addr.add; split <;> simp_all
  rw [this, (Blk.new w c.toArray t).cell]; simpa using hj
theorem TKeep.putObj {T : TypeId → Bool} {a b : World} (h : TKeep T a b) {D : Nat} {o : Obj} (hD : b.heap[D]? = some o) (ho : o.isCells = false) (o' : Obj) : ∀ {k : Nat} {c : Array Value} {t : TypeId}, Blk b k c t → Blk (b.putObj D o') k c t := fun hb => by
  refine hb.putObj ?_ o'
  rintro rfl
  unfold Blk at hb; rw [hD] at hb; injection hb with hb; subst hb; cases ho
theorem ownsRow_putObj {w : World} {D : Nat} {o : Obj} (hD : w.heap[D]? = some o) (ho : o.isCells = false) (o' : Obj) {b : Nat} {e : TypeId} {size n : Nat} {v : Value} {xs : List Value} (h : w.ownsRow b e size v n xs) : (w.putObj D o').ownsRow b e size v n xs :=
  ownsRow_keeps h fun k hk => by
    obtain ⟨cur, hc⟩ := ownsRow_type h hk
    exact ((TKeep.refl (fun _ => false) w).putObj hD ho o' hc).trans hc.symm
theorem ownsRow_base {w : World} {b b' : Nat} {e : TypeId} {size n : Nat} {v : Value} {xs : List Value} (h : w.ownsRow b e size v n xs) (hb : b' ≤ b) : w.ownsRow b' e size v n xs := by
  refine ⟨h.1, ?_⟩
  rcases h.2 with h2 | ⟨g, cap, cur, h1, h2, r⟩
  · exact .inl h2
  · exact .inr ⟨g, cap, cur, h1, Nat.le_trans hb h2, r⟩
theorem own_slice {w : World} {b : Nat} {e : TypeId} {size n : Nat} {v : Value} {xs : List Value} (h : w.ownsRow b e size v n xs) : ∃ a c, v = .slice a n c := by
  rcases h.2 with ⟨h2, rfl⟩ | ⟨g, cap, cur, h1, r⟩
  · exact ⟨none, 0, h2⟩
  · exact ⟨_, _, h1⟩
theorem Ext.below {a b : World} (h : Ext a b) {B : Nat} (hB : B ≤ a.heap.size) : Below B a b := Keeps.below h hB fun _ h => h.elim
/-! ### One operation in a round -/
section
variable {r : Option Nat} {n : Nat} {P : Program} {ops : Array Oper} {Q : Exit → Act → World → Prop} {rest : List Oper} {o : Oper} {a : Act} {w w2 : World}
theorem wpListIn_value {v : Value} (hg : o.guard = none) (hd : ∀ c, o.op ≠ .defer c) (hrun : (execOp a.eval o).run P w = .ok (.value v) w2) (hK : wpListIn (WF r) n P ops Q rest (a.put o.dst v) w2) : wpListIn (WF r) n P ops Q (o :: rest) a w := by
  unfold wpListIn
  simp only [Region.wanted, hg, if_true, Oper.wpIn, Oper.semAt_eq _ _ _ hd, hrun]
  exact ⟨fun _ _ => trivial, hK⟩
theorem wpListIn_skip (hg : o.guard = none) (hd : ∀ c, o.op ≠ .defer c) (hrun : (execOp a.eval o).run P w = .ok .skip w2) (hK : wpListIn (WF r) n P ops Q rest (a.put o.dst undef) w2) : wpListIn (WF r) n P ops Q (o :: rest) a w := by
  unfold wpListIn
  simp only [Region.wanted, hg, if_true, Oper.wpIn, Oper.semAt_eq _ _ _ hd, hrun]
  exact ⟨fun _ _ => trivial, hK⟩
theorem wpListIn_call {f : FuncId} {args : Array Value} {R : Ending → World → Prop} (hg : o.guard = none) (hd : ∀ c, o.op ≠ .defer c) (hrun : (execOp a.eval o).run P w = .ok (.enter f args) w2) (hc : Calls P f args w2 R)
    (hK : ∀ e w', R e w' → ∃ v, e = .returned v ∧ wpListIn (WF r) n P ops Q rest (a.put o.dst v) w') : wpListIn (WF r) n P ops Q (o :: rest) a w := by
  unfold wpListIn
  simp only [Region.wanted, hg, if_true, Oper.wpIn, Oper.semAt_eq _ _ _ hd, hrun]
  refine ⟨fun _ _ => trivial, fun h => (by cases h), ?_⟩
  refine CallsIn.mono (callsIn_WF hc) fun e w' he => ?_
  obtain ⟨v, rfl, h⟩ := hK e w' he
  exact h
theorem wpListIn_append_fresh (hgd : o.guard = none) (s x : Operand) (t : TypeId)
    (ho : o.op = .call { callee := .builtin .append, args := #[s, x], argTypes := #[t, t] })
    (base : Nat) (e : TypeId) (i : TypeInfo) (z : Value) (size bytes : Nat) (ht : P.underlying t = some (.slice e)) (hi : P.info? e = some i) (hz : i.zero = some z)
    (hsize : i.size = size) (hby : i.bytes = bytes) (hzs : z.cells.size = size) (hsz : 0 < size)
    (v : Value) (m0 : Nat) (xs : List Value) (hs : a.eval s = v) (hown : w.ownsRow base e size v m0 xs)
    (ad : Addr) (m c : Nat) (news : List Value) (hx : a.eval x = .slice (some ad) m c) (hl : news.length = m * size) (hnews : ∀ j u, news[j]? = some u → w.cell? (ad.add j) = some u) (h1 : ∀ u ∈ news, u.oneCell' = true)
    (h63 : m0 + m ≤ maxLen) (hbytes : (m0 + m) * bytes ≤ 140737488355328) (hbase : base ≤ w.heap.size)
    (h : ∀ v' w', w'.ownsRow base e size v' (m0 + m) (xs ++ news) → w.grownBy w' v.ownBlock → (v' = .slice none 0 0 ↔ v = .slice none 0 0 ∧ m = 0) → (∀ k, v'.ownBlock = some k → v.ownBlock = some k ∨ w.heap.size ≤ k) → wpListIn (WF r) n P ops Q rest (a.put o.dst v') w') : wpListIn (WF r) n P ops Q (o :: rest) a w := by
  obtain ⟨v', w', hr, h2, h3, h4, h5⟩ := append_own_fresh (P := P) w base t o.type e i z size bytes ht hi hz hsize hby hzs hsz v m0 xs hown ad m c news hl hnews h1 h63 hbytes hbase
  refine wpListIn_value hgd (fun c e => by rw [ho] at e; cases e) (v := v') (w2 := w') ?_ (h v' w' h2 h3 h4 h5)
  unfold execOp
  simp only [ho, resolve, invoke, builtin, Sem.run_bind, Sem.run_pure, Result.andThen_ok, List.map_toArray, List.map_cons, List.map_nil, hs, hx, hr]
end
end Go.Proofs.Ytikigppfnhilhaa
