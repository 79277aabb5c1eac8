/- A code as an argument, opened. The reference's small checks: within, place, Printed. -/
import Derived.Test.YtlaepkmnbbgbcaaGreatDoorGB18
import Derived.Test.YtlaepkmnbbgbcaaGreatDoorGB7
import Derived.Test.YtlaepkmnbbgbcaaGreatDoorGB4
/- A code as an argument, opened. -/
namespace Go.Proofs.YtlaepkmnbbgbcaaGreatDoor
open Go.RowKit Go.Instr Go.ChangeShapes Go.WideShapes Go.ChangeAt
set_option linter.unusedVariables false
set_option linter.unusedSimpArgs false

theorem exists_list {α : Type} (n : Nat) (P : Nat → α → Prop) (h : ∀ i, i < n → ∃ a, P i a) : ∃ l : List α, l.length = n ∧ ∀ i a, l[i]? = some a → P i a := by
  induction n with
  | zero => exact ⟨[], rfl, fun i a h => by simp at h⟩
  | succ n ih =>
    obtain ⟨l, hl, hp⟩ := ih fun i hi => h i (by omega)
    obtain ⟨a, ha⟩ := h n (by omega)
    refine ⟨l ++ [a], by simp [hl], fun i b hb => ?_⟩
    by_cases hi : i < l.length
    · rw [List.getElem?_append_left hi] at hb; exact hp i b hb
    · rw [List.getElem?_append_right (by omega)] at hb
      have : i = n := by
        have := (List.getElem?_eq_some_iff.1 hb).1; simp at this; omega
      subst this
      rw [hl] at hb; simp at hb; subst hb; exact ha
theorem cells_get {w : World} {base : Nat} {a : Addr} {n : Nat} {cs : List Value} (h : w.cells? base a n = some cs) {j : Nat} {u : Value} (hu : cs[j]? = some u) (hj : j < n) : w.cell? (a.add j) = some u := by
  rw [(World.cells?_some h).2.2 j hj]; exact hu
theorem list_of2 {α : Type} {l : List α} (h : l.length = 2) : ∃ c0 c1, l = [c0, c1] := by
  match l, h with
  | [c0, c1], _ => exact ⟨c0, c1, rfl⟩
theorem list_of3 {α : Type} {l : List α} (h : l.length = 3) : ∃ c0 c1 c2, l = [c0, c1, c2] := by
  match l, h with
  | [c0, c1, c2], _ => exact ⟨c0, c1, c2, rfl⟩
theorem list_of4 {α : Type} {l : List α} (h : l.length = 4) : ∃ c0 c1 c2 c3, l = [c0, c1, c2, c3] := by
  match l, h with
  | [c0, c1, c2, c3], _ => exact ⟨c0, c1, c2, c3, rfl⟩
theorem list_of5 {α : Type} {l : List α} (h : l.length = 5) : ∃ c0 c1 c2 c3 c4, l = [c0, c1, c2, c3, c4] := by
  match l, h with
  | [c0, c1, c2, c3, c4], _ => exact ⟨c0, c1, c2, c3, c4, rfl⟩
theorem list_of11 {α : Type} {l : List α} (h : l.length = 11) : ∃ c0 c1 c2 c3 c4 c5 c6 c7 c8 c9 c10, l = [c0, c1, c2, c3, c4, c5, c6, c7, c8, c9, c10] := by
  match l, h with
  | [c0, c1, c2, c3, c4, c5, c6, c7, c8, c9, c10], _ => exact ⟨c0, c1, c2, c3, c4, c5, c6, c7, c8, c9, c10, rfl⟩
theorem oc_int : Tryz.prog.cellsOf 3 = 1 := by kernel_rfl
theorem oc_str : Tryz.prog.cellsOf 9 = 1 := by kernel_rfl
theorem oc_ints : Tryz.prog.cellsOf 47 = 1 := by kernel_rfl
theorem oc_virts : Tryz.prog.cellsOf 48 = 1 := by kernel_rfl
theorem oc_virt : Tryz.prog.cellsOf 88 = 4 := by kernel_rfl
theorem oc_label : Tryz.prog.cellsOf 90 = 2 := by kernel_rfl
theorem oc_real : Tryz.prog.cellsOf 94 = 2 := by kernel_rfl
theorem oc_instr : Tryz.prog.cellsOf 82 = 3 := by kernel_rfl
theorem oc_desc : Tryz.prog.cellsOf 50 = 11 := by kernel_rfl
theorem oc_code : Tryz.prog.cellsOf 28 = 5 := by kernel_rfl
theorem oc_descs : Tryz.prog.cellsOf 22 = 1 := by kernel_rfl
theorem oc_labels : Tryz.prog.cellsOf 23 = 1 := by kernel_rfl
theorem oc_strs : Tryz.prog.cellsOf 24 = 1 := by kernel_rfl
theorem oc_reals : Tryz.prog.cellsOf 25 = 1 := by kernel_rfl
theorem oc_instrs : Tryz.prog.cellsOf 26 = 1 := by kernel_rfl
theorem wf_i64 {n : Int} (h : (Lit.int .i64 n).wf = true) : I64 n := by
  simp only [Lit.wf, Bool.and_eq_true, decide_eq_true_eq] at h
  exact h
section
variable {H : Type} {enc : TypeId × Value → H} {P : Program} {w : World} {spare : Nat → Bool} {held : Bool}
theorem open_list {α : Type} {ec : α → List Value} {R : α → Prop} {size : Nat} {t e : TypeId} (ht : P.underlying t = some (.slice e)) (hsz : P.cellsOf e = size) (hpos : 0 < size) (hlen : ∀ a, (ec a).length = size)
    (helem : ∀ {fuel : Nat} {cs : List Value} {x : DataW H × List MemPlace}, DataW.trod enc P w 0 spare held fuel e cs = some x → ∃ a, cs = ec a ∧ R a)
    {fuel : Nat} {cs : List Value} {x : DataW H × List MemPlace} (h : DataW.trod enc P w 0 spare held fuel t cs = some x) : ∃ v l, cs = [v] ∧ RdL ec w v l ∧ ∀ a ∈ l, R a := by
  rcases DataW.trod_slice ht h with ⟨rfl, rfl⟩ | ⟨a, len, cap, elems, rest, n, _, rfl, rfl, hb, hlc, hm, hlen2, hel, hsp, hns⟩
  · exact ⟨_, [], rfl, RdL.nil w, fun a ha => by cases ha⟩
  · rw [hsz] at hel
    obtain ⟨l, hwl, hl⟩ := exists_list len (fun i (u : α) => w.cells? 0 (a.add (i * size)) size = some (ec u) ∧ R u) fun i hi => by
      have h1 := hel i hi
      rw [List.getElem?_eq_getElem (by omega)] at h1
      obtain ⟨cs, h2, h3⟩ := Option.bind_eq_some_iff.1 h1
      obtain ⟨u, rfl, hp⟩ := helem h3
      exact ⟨u, h2, hp⟩
    refine ⟨.slice (some a) len cap, l, rfl, ⟨some a, cap, by rw [hwl], by rw [hwl]; exact hlc, fun e => (by cases e), fun ad had j v hv => ?_⟩, fun u hu => ?_⟩
    · injection had with had; subst had
      have hj : j < l.length * size := by have := (List.getElem?_eq_some_iff.1 hv).1; rw [flat_len hlen] at this; exact this
      have hji : j / size < l.length := (Nat.div_lt_iff_lt_mul hpos).2 hj
      have hu : l[j / size]? = some l[j / size] := List.getElem?_eq_getElem hji
      have hg := flat_get hlen l (j / size) _ hu (j % size) (Nat.mod_lt _ hpos)
      have hjj : j / size * size + j % size = j := by rw [Nat.mul_comm]; exact Nat.div_add_mod j size
      rw [hjj, hv] at hg
      have := cells_get (hl _ _ hu).1 hg.symm (Nat.mod_lt _ hpos)
      rw [Addr.add_add, hjj] at this
      exact this
    · obtain ⟨i, hi⟩ := List.getElem?_of_mem hu
      exact (hl i u hi).2
theorem open_int1 {t : TypeId} (ht : P.underlying t = some (.int .i64)) {fuel : Nat} {cs : List Value} {x : DataW H × List MemPlace} (h : DataW.trod enc P w 0 spare held fuel t cs = some x) : ∃ n : Int, cs = [.int .i64 n] ∧ I64 n := by
  obtain ⟨n, hc, -, hw⟩ := DataW.trod_int ht h
  exact ⟨n, hc, wf_i64 hw⟩
/-- The parts of a struct. -/
theorem open_parts {t : TypeId} {fs : Array Field} {n : Nat} (ht : P.underlying t = some (.struct fs)) (hsz : P.cellsOf t = n) {fuel : Nat} {cs : List Value} {x : DataW H × List MemPlace} (h : DataW.trod enc P w 0 spare held fuel t cs = some x) :
    cs.length = n ∧ ∀ (i : Nat) (f : Field), fs[i]? = some f → ∃ (m : Nat) (y : DataW H × List MemPlace), DataW.trod enc P w 0 spare held m f.type ((cs.drop f.offset).take (P.cellsOf f.type)) = some y := by
  obtain ⟨xs, m, _, _, hl, hlen, hf⟩ := DataW.trod_struct ht h
  refine ⟨by rw [hl, hsz], fun i f hi => ?_⟩
  have := hf i f hi
  have hlt : i < xs.length := by rw [hlen]; exact (Array.getElem?_eq_some_iff.1 hi).1
  rw [List.getElem?_eq_getElem hlt] at this
  exact ⟨m, _, this⟩
end
section
variable {H : Type} {enc : TypeId × Value → H} {w : World} {spare : Nat → Bool} {held : Bool}
theorem open_i {fuel : Nat} {cs : List Value} {x : DataW H × List MemPlace} (h : DataW.trod enc Tryz.prog w 0 spare held fuel 3 cs = some x) : ∃ a, cs = encI a ∧ I64 a := open_int1 Tryz.underlying3 h
theorem open_s {fuel : Nat} {cs : List Value} {x : DataW H × List MemPlace} (h : DataW.trod enc Tryz.prog w 0 spare held fuel 9 cs = some x) : ∃ a, cs = encS a ∧ True := by
  obtain ⟨s, hc, -⟩ := DataW.trod_string Tryz.underlying9 h
  exact ⟨s, hc, trivial⟩
theorem open_v {fuel : Nat} {cs : List Value} {x : DataW H × List MemPlace} (h : DataW.trod enc Tryz.prog w 0 spare held fuel 88 cs = some x) : ∃ a, cs = encV a ∧ I64 a.id ∧ I64 a.part ∧ I64 a.level ∧ I64 a.desc := by
  obtain ⟨hl, hf⟩ := open_parts Tryz.underlying88 oc_virt h
  obtain ⟨c0, c1, c2, c3, rfl⟩ := list_of4 hl
  obtain ⟨m0, y0, f0⟩ : ∃ (m : Nat) (y : DataW H × List MemPlace), DataW.trod enc Tryz.prog w 0 spare held m 3 (([c0, c1, c2, c3].drop 0).take (Tryz.prog.cellsOf 3)) = some y := hf 0 _ rfl
  rw [oc_int] at f0
  simp only [List.drop_zero, List.drop_succ_cons, List.take_succ_cons, List.take_zero] at f0
  obtain ⟨n0, e0, w0⟩ := open_int1 Tryz.underlying3 f0
  injection e0 with e0 _
  obtain ⟨m1, y1, f1⟩ : ∃ (m : Nat) (y : DataW H × List MemPlace), DataW.trod enc Tryz.prog w 0 spare held m 3 (([c0, c1, c2, c3].drop 1).take (Tryz.prog.cellsOf 3)) = some y := hf 1 _ rfl
  rw [oc_int] at f1
  simp only [List.drop_zero, List.drop_succ_cons, List.take_succ_cons, List.take_zero] at f1
  obtain ⟨n1, e1, w1⟩ := open_int1 Tryz.underlying3 f1
  injection e1 with e1 _
  obtain ⟨m2, y2, f2⟩ : ∃ (m : Nat) (y : DataW H × List MemPlace), DataW.trod enc Tryz.prog w 0 spare held m 3 (([c0, c1, c2, c3].drop 2).take (Tryz.prog.cellsOf 3)) = some y := hf 2 _ rfl
  rw [oc_int] at f2
  simp only [List.drop_zero, List.drop_succ_cons, List.take_succ_cons, List.take_zero] at f2
  obtain ⟨n2, e2, w2⟩ := open_int1 Tryz.underlying3 f2
  injection e2 with e2 _
  obtain ⟨m3, y3, f3⟩ : ∃ (m : Nat) (y : DataW H × List MemPlace), DataW.trod enc Tryz.prog w 0 spare held m 3 (([c0, c1, c2, c3].drop 3).take (Tryz.prog.cellsOf 3)) = some y := hf 3 _ rfl
  rw [oc_int] at f3
  simp only [List.drop_zero, List.drop_succ_cons, List.take_succ_cons, List.take_zero] at f3
  obtain ⟨n3, e3, w3⟩ := open_int1 Tryz.underlying3 f3
  injection e3 with e3 _
  exact ⟨⟨n0, n1, n2, n3⟩, by rw [e0, e1, e2, e3]; rfl, w0, w1, w2, w3⟩
theorem open_lb {fuel : Nat} {cs : List Value} {x : DataW H × List MemPlace} (h : DataW.trod enc Tryz.prog w 0 spare held fuel 90 cs = some x) : ∃ a, cs = encL a ∧ I64 a.1 ∧ I64 a.2 := by
  obtain ⟨hl, hf⟩ := open_parts Tryz.underlying90 oc_label h
  obtain ⟨c0, c1, rfl⟩ := list_of2 hl
  obtain ⟨m0, y0, f0⟩ : ∃ (m : Nat) (y : DataW H × List MemPlace), DataW.trod enc Tryz.prog w 0 spare held m 3 (([c0, c1].drop 0).take (Tryz.prog.cellsOf 3)) = some y := hf 0 _ rfl
  rw [oc_int] at f0
  simp only [List.drop_zero, List.drop_succ_cons, List.take_succ_cons, List.take_zero] at f0
  obtain ⟨n0, e0, w0⟩ := open_int1 Tryz.underlying3 f0
  injection e0 with e0 _
  obtain ⟨m1, y1, f1⟩ : ∃ (m : Nat) (y : DataW H × List MemPlace), DataW.trod enc Tryz.prog w 0 spare held m 3 (([c0, c1].drop 1).take (Tryz.prog.cellsOf 3)) = some y := hf 1 _ rfl
  rw [oc_int] at f1
  simp only [List.drop_zero, List.drop_succ_cons, List.take_succ_cons, List.take_zero] at f1
  obtain ⟨n1, e1, w1⟩ := open_int1 Tryz.underlying3 f1
  injection e1 with e1 _
  exact ⟨(n0, n1), by rw [e0, e1]; rfl, w0, w1⟩
theorem open_re {fuel : Nat} {cs : List Value} {x : DataW H × List MemPlace} (h : DataW.trod enc Tryz.prog w 0 spare held fuel 94 cs = some x) : ∃ a, cs = encL a ∧ I64 a.1 ∧ I64 a.2 := by
  obtain ⟨hl, hf⟩ := open_parts Tryz.underlying94 oc_real h
  obtain ⟨c0, c1, rfl⟩ := list_of2 hl
  obtain ⟨m0, y0, f0⟩ : ∃ (m : Nat) (y : DataW H × List MemPlace), DataW.trod enc Tryz.prog w 0 spare held m 3 (([c0, c1].drop 0).take (Tryz.prog.cellsOf 3)) = some y := hf 0 _ rfl
  rw [oc_int] at f0
  simp only [List.drop_zero, List.drop_succ_cons, List.take_succ_cons, List.take_zero] at f0
  obtain ⟨n0, e0, w0⟩ := open_int1 Tryz.underlying3 f0
  injection e0 with e0 _
  obtain ⟨m1, y1, f1⟩ : ∃ (m : Nat) (y : DataW H × List MemPlace), DataW.trod enc Tryz.prog w 0 spare held m 3 (([c0, c1].drop 1).take (Tryz.prog.cellsOf 3)) = some y := hf 1 _ rfl
  rw [oc_int] at f1
  simp only [List.drop_zero, List.drop_succ_cons, List.take_succ_cons, List.take_zero] at f1
  obtain ⟨n1, e1, w1⟩ := open_int1 Tryz.underlying3 f1
  injection e1 with e1 _
  exact ⟨(n0, n1), by rw [e0, e1]; rfl, w0, w1⟩
theorem open_in {fuel : Nat} {cs : List Value} {x : DataW H × List MemPlace} (h : DataW.trod enc Tryz.prog w 0 spare held fuel 82 cs = some x) : ∃ a, cs = encN a ∧ I64 a.op ∧ I64 a.a ∧ I64 a.b := by
  obtain ⟨hl, hf⟩ := open_parts Tryz.underlying82 oc_instr h
  obtain ⟨c0, c1, c2, rfl⟩ := list_of3 hl
  obtain ⟨m0, y0, f0⟩ : ∃ (m : Nat) (y : DataW H × List MemPlace), DataW.trod enc Tryz.prog w 0 spare held m 3 (([c0, c1, c2].drop 0).take (Tryz.prog.cellsOf 3)) = some y := hf 0 _ rfl
  rw [oc_int] at f0
  simp only [List.drop_zero, List.drop_succ_cons, List.take_succ_cons, List.take_zero] at f0
  obtain ⟨n0, e0, w0⟩ := open_int1 Tryz.underlying3 f0
  injection e0 with e0 _
  obtain ⟨m1, y1, f1⟩ : ∃ (m : Nat) (y : DataW H × List MemPlace), DataW.trod enc Tryz.prog w 0 spare held m 3 (([c0, c1, c2].drop 1).take (Tryz.prog.cellsOf 3)) = some y := hf 1 _ rfl
  rw [oc_int] at f1
  simp only [List.drop_zero, List.drop_succ_cons, List.take_succ_cons, List.take_zero] at f1
  obtain ⟨n1, e1, w1⟩ := open_int1 Tryz.underlying3 f1
  injection e1 with e1 _
  obtain ⟨m2, y2, f2⟩ : ∃ (m : Nat) (y : DataW H × List MemPlace), DataW.trod enc Tryz.prog w 0 spare held m 3 (([c0, c1, c2].drop 2).take (Tryz.prog.cellsOf 3)) = some y := hf 2 _ rfl
  rw [oc_int] at f2
  simp only [List.drop_zero, List.drop_succ_cons, List.take_succ_cons, List.take_zero] at f2
  obtain ⟨n2, e2, w2⟩ := open_int1 Tryz.underlying3 f2
  injection e2 with e2 _
  exact ⟨⟨n0, n1, n2⟩, by rw [e0, e1, e2]; rfl, w0, w1, w2⟩
theorem open_is {fuel : Nat} {cs : List Value} {x : DataW H × List MemPlace} (h : DataW.trod enc Tryz.prog w 0 spare held fuel 47 cs = some x) : ∃ v l, cs = [v] ∧ RdL encI w v l ∧ ∀ a ∈ l, I64 a :=
  open_list (R := fun a => I64 a) Tryz.underlying47 oc_int (by decide) encI_len (fun h => open_i h) h
theorem open_vs {fuel : Nat} {cs : List Value} {x : DataW H × List MemPlace} (h : DataW.trod enc Tryz.prog w 0 spare held fuel 48 cs = some x) : ∃ v l, cs = [v] ∧ RdL encV w v l ∧ ∀ a ∈ l, (I64 a.id ∧ I64 a.part ∧ I64 a.level ∧ I64 a.desc) :=
  open_list (R := fun a => (I64 a.id ∧ I64 a.part ∧ I64 a.level ∧ I64 a.desc)) Tryz.underlying48 oc_virt (by decide) encV_len (fun h => open_v h) h
theorem open_lbs {fuel : Nat} {cs : List Value} {x : DataW H × List MemPlace} (h : DataW.trod enc Tryz.prog w 0 spare held fuel 23 cs = some x) : ∃ v l, cs = [v] ∧ RdL encL w v l ∧ ∀ a ∈ l, (I64 a.1 ∧ I64 a.2) :=
  open_list (R := fun a => (I64 a.1 ∧ I64 a.2)) Tryz.underlying23 oc_label (by decide) encL_len (fun h => open_lb h) h
theorem open_res {fuel : Nat} {cs : List Value} {x : DataW H × List MemPlace} (h : DataW.trod enc Tryz.prog w 0 spare held fuel 25 cs = some x) : ∃ v l, cs = [v] ∧ RdL encL w v l ∧ ∀ a ∈ l, (I64 a.1 ∧ I64 a.2) :=
  open_list (R := fun a => (I64 a.1 ∧ I64 a.2)) Tryz.underlying25 oc_real (by decide) encL_len (fun h => open_re h) h
theorem open_ins {fuel : Nat} {cs : List Value} {x : DataW H × List MemPlace} (h : DataW.trod enc Tryz.prog w 0 spare held fuel 26 cs = some x) : ∃ v l, cs = [v] ∧ RdL encN w v l ∧ ∀ a ∈ l, (I64 a.op ∧ I64 a.a ∧ I64 a.b) :=
  open_list (R := fun a => (I64 a.op ∧ I64 a.a ∧ I64 a.b)) Tryz.underlying26 oc_instr (by decide) encN_len (fun h => open_in h) h
theorem open_ss {fuel : Nat} {cs : List Value} {x : DataW H × List MemPlace} (h : DataW.trod enc Tryz.prog w 0 spare held fuel 24 cs = some x) : ∃ v l, cs = [v] ∧ RdL encS w v l ∧ ∀ a ∈ l, True :=
  open_list (R := fun a => True) Tryz.underlying24 oc_str (by decide) encS_len (fun h => open_s h) h
/-- The numbers of a descriptor are ints. -/
structure NumD (d : De) : Prop where
  around : I64 d.around
  offset : I64 d.offset
  cells : I64 d.cells
  init : I64 d.init
  enter : I64 d.enter
  do_ : I64 d.do_
  exit : I64 d.exit
  stack : I64 d.stack
  chain : ∀ n ∈ d.chain, I64 n
  up : ∀ n ∈ d.up, I64 n
  virts : ∀ v ∈ d.virts, I64 v.id ∧ I64 v.part ∧ I64 v.level ∧ I64 v.desc
theorem open_de {fuel : Nat} {cs : List Value} {x : DataW H × List MemPlace} (h : DataW.trod enc Tryz.prog w 0 spare held fuel 50 cs = some x) : ∃ a : DeV, cs = encD a ∧ RdDe w a ∧ NumD a.d := by
  obtain ⟨hl, hf⟩ := open_parts Tryz.underlying50 oc_desc h
  obtain ⟨c0, c1, c2, c3, c4, c5, c6, c7, c8, c9, c10, rfl⟩ := list_of11 hl
  obtain ⟨m0, y0, f0⟩ : ∃ (m : Nat) (y : DataW H × List MemPlace), DataW.trod enc Tryz.prog w 0 spare held m 3 (([c0, c1, c2, c3, c4, c5, c6, c7, c8, c9, c10].drop 0).take (Tryz.prog.cellsOf 3)) = some y := hf 0 _ rfl
  rw [oc_int] at f0
  simp only [List.drop_zero, List.drop_succ_cons, List.take_succ_cons, List.take_zero] at f0
  obtain ⟨n0, e0, w0⟩ := open_int1 Tryz.underlying3 f0
  injection e0 with e0 _
  obtain ⟨m1, y1, f1⟩ : ∃ (m : Nat) (y : DataW H × List MemPlace), DataW.trod enc Tryz.prog w 0 spare held m 47 (([c0, c1, c2, c3, c4, c5, c6, c7, c8, c9, c10].drop 1).take (Tryz.prog.cellsOf 47)) = some y := hf 1 _ rfl
  rw [oc_ints] at f1
  simp only [List.drop_zero, List.drop_succ_cons, List.take_succ_cons, List.take_zero] at f1
  obtain ⟨v1, l1, e1, r1, p1⟩ := open_is f1
  injection e1 with e1 _
  obtain ⟨m2, y2, f2⟩ : ∃ (m : Nat) (y : DataW H × List MemPlace), DataW.trod enc Tryz.prog w 0 spare held m 47 (([c0, c1, c2, c3, c4, c5, c6, c7, c8, c9, c10].drop 2).take (Tryz.prog.cellsOf 47)) = some y := hf 2 _ rfl
  rw [oc_ints] at f2
  simp only [List.drop_zero, List.drop_succ_cons, List.take_succ_cons, List.take_zero] at f2
  obtain ⟨v2, l2, e2, r2, p2⟩ := open_is f2
  injection e2 with e2 _
  obtain ⟨m3, y3, f3⟩ : ∃ (m : Nat) (y : DataW H × List MemPlace), DataW.trod enc Tryz.prog w 0 spare held m 3 (([c0, c1, c2, c3, c4, c5, c6, c7, c8, c9, c10].drop 3).take (Tryz.prog.cellsOf 3)) = some y := hf 3 _ rfl
  rw [oc_int] at f3
  simp only [List.drop_zero, List.drop_succ_cons, List.take_succ_cons, List.take_zero] at f3
  obtain ⟨n3, e3, w3⟩ := open_int1 Tryz.underlying3 f3
  injection e3 with e3 _
  obtain ⟨m4, y4, f4⟩ : ∃ (m : Nat) (y : DataW H × List MemPlace), DataW.trod enc Tryz.prog w 0 spare held m 3 (([c0, c1, c2, c3, c4, c5, c6, c7, c8, c9, c10].drop 4).take (Tryz.prog.cellsOf 3)) = some y := hf 4 _ rfl
  rw [oc_int] at f4
  simp only [List.drop_zero, List.drop_succ_cons, List.take_succ_cons, List.take_zero] at f4
  obtain ⟨n4, e4, w4⟩ := open_int1 Tryz.underlying3 f4
  injection e4 with e4 _
  obtain ⟨m5, y5, f5⟩ : ∃ (m : Nat) (y : DataW H × List MemPlace), DataW.trod enc Tryz.prog w 0 spare held m 48 (([c0, c1, c2, c3, c4, c5, c6, c7, c8, c9, c10].drop 5).take (Tryz.prog.cellsOf 48)) = some y := hf 5 _ rfl
  rw [oc_virts] at f5
  simp only [List.drop_zero, List.drop_succ_cons, List.take_succ_cons, List.take_zero] at f5
  obtain ⟨v5, l5, e5, r5, p5⟩ := open_vs f5
  injection e5 with e5 _
  obtain ⟨m6, y6, f6⟩ : ∃ (m : Nat) (y : DataW H × List MemPlace), DataW.trod enc Tryz.prog w 0 spare held m 3 (([c0, c1, c2, c3, c4, c5, c6, c7, c8, c9, c10].drop 6).take (Tryz.prog.cellsOf 3)) = some y := hf 6 _ rfl
  rw [oc_int] at f6
  simp only [List.drop_zero, List.drop_succ_cons, List.take_succ_cons, List.take_zero] at f6
  obtain ⟨n6, e6, w6⟩ := open_int1 Tryz.underlying3 f6
  injection e6 with e6 _
  obtain ⟨m7, y7, f7⟩ : ∃ (m : Nat) (y : DataW H × List MemPlace), DataW.trod enc Tryz.prog w 0 spare held m 3 (([c0, c1, c2, c3, c4, c5, c6, c7, c8, c9, c10].drop 7).take (Tryz.prog.cellsOf 3)) = some y := hf 7 _ rfl
  rw [oc_int] at f7
  simp only [List.drop_zero, List.drop_succ_cons, List.take_succ_cons, List.take_zero] at f7
  obtain ⟨n7, e7, w7⟩ := open_int1 Tryz.underlying3 f7
  injection e7 with e7 _
  obtain ⟨m8, y8, f8⟩ : ∃ (m : Nat) (y : DataW H × List MemPlace), DataW.trod enc Tryz.prog w 0 spare held m 3 (([c0, c1, c2, c3, c4, c5, c6, c7, c8, c9, c10].drop 8).take (Tryz.prog.cellsOf 3)) = some y := hf 8 _ rfl
  rw [oc_int] at f8
  simp only [List.drop_zero, List.drop_succ_cons, List.take_succ_cons, List.take_zero] at f8
  obtain ⟨n8, e8, w8⟩ := open_int1 Tryz.underlying3 f8
  injection e8 with e8 _
  obtain ⟨m9, y9, f9⟩ : ∃ (m : Nat) (y : DataW H × List MemPlace), DataW.trod enc Tryz.prog w 0 spare held m 3 (([c0, c1, c2, c3, c4, c5, c6, c7, c8, c9, c10].drop 9).take (Tryz.prog.cellsOf 3)) = some y := hf 9 _ rfl
  rw [oc_int] at f9
  simp only [List.drop_zero, List.drop_succ_cons, List.take_succ_cons, List.take_zero] at f9
  obtain ⟨n9, e9, w9⟩ := open_int1 Tryz.underlying3 f9
  injection e9 with e9 _
  obtain ⟨m10, y10, f10⟩ : ∃ (m : Nat) (y : DataW H × List MemPlace), DataW.trod enc Tryz.prog w 0 spare held m 3 (([c0, c1, c2, c3, c4, c5, c6, c7, c8, c9, c10].drop 10).take (Tryz.prog.cellsOf 3)) = some y := hf 10 _ rfl
  rw [oc_int] at f10
  simp only [List.drop_zero, List.drop_succ_cons, List.take_succ_cons, List.take_zero] at f10
  obtain ⟨n10, e10, w10⟩ := open_int1 Tryz.underlying3 f10
  injection e10 with e10 _
  exact ⟨⟨⟨n0, l1, l2, n3, n4, l5, n6, n7, n8, n9, n10⟩, v1, v2, v5⟩, by rw [e0, e1, e2, e3, e4, e5, e6, e7, e8, e9, e10]; rfl, ⟨r1, r2, r5⟩, ⟨w0, w3, w4, w6, w7, w8, w9, w10, p1, p2, p5⟩⟩
theorem open_des {fuel : Nat} {cs : List Value} {x : DataW H × List MemPlace} (h : DataW.trod enc Tryz.prog w 0 spare held fuel 22 cs = some x) : ∃ v l, cs = [v] ∧ RdL encD w v l ∧ ∀ a ∈ l, (RdDe w a ∧ NumD a.d) :=
  open_list (R := fun a => (RdDe w a ∧ NumD a.d)) Tryz.underlying22 oc_desc (by decide) encD_len (fun h => open_de h) h
/-- The numbers of a code are ints. -/
structure NumC (c : Co) : Prop where
  descs : ∀ d ∈ c.descs, NumD d
  labels : ∀ l ∈ c.labels, I64 l.1 ∧ I64 l.2
  reals : ∀ l ∈ c.reals, I64 l.1 ∧ I64 l.2
  instrs : ∀ x ∈ c.instrs, I64 x.op ∧ I64 x.a ∧ I64 x.b
theorem open_code {fuel : Nat} {cs : List Value} {x : DataW H × List MemPlace} (h : DataW.trod enc Tryz.prog w 0 spare held fuel 28 cs = some x) : ∃ dv lv tv rv iv c xs, cs = [dv, lv, tv, rv, iv] ∧ RdCo w dv lv tv rv iv c xs ∧ NumC c := by
  obtain ⟨hl, hf⟩ := open_parts Tryz.underlying28 oc_code h
  obtain ⟨c0, c1, c2, c3, c4, rfl⟩ := list_of5 hl
  obtain ⟨m0, y0, f0⟩ : ∃ (m : Nat) (y : DataW H × List MemPlace), DataW.trod enc Tryz.prog w 0 spare held m 22 (([c0, c1, c2, c3, c4].drop 0).take (Tryz.prog.cellsOf 22)) = some y := hf 0 _ rfl
  rw [oc_descs] at f0
  simp only [List.drop_zero, List.drop_succ_cons, List.take_succ_cons, List.take_zero] at f0
  obtain ⟨v0, l0, e0, r0, p0⟩ := open_des f0
  injection e0 with e0 _
  obtain ⟨m1, y1, f1⟩ : ∃ (m : Nat) (y : DataW H × List MemPlace), DataW.trod enc Tryz.prog w 0 spare held m 23 (([c0, c1, c2, c3, c4].drop 1).take (Tryz.prog.cellsOf 23)) = some y := hf 1 _ rfl
  rw [oc_labels] at f1
  simp only [List.drop_zero, List.drop_succ_cons, List.take_succ_cons, List.take_zero] at f1
  obtain ⟨v1, l1, e1, r1, p1⟩ := open_lbs f1
  injection e1 with e1 _
  obtain ⟨m2, y2, f2⟩ : ∃ (m : Nat) (y : DataW H × List MemPlace), DataW.trod enc Tryz.prog w 0 spare held m 24 (([c0, c1, c2, c3, c4].drop 2).take (Tryz.prog.cellsOf 24)) = some y := hf 2 _ rfl
  rw [oc_strs] at f2
  simp only [List.drop_zero, List.drop_succ_cons, List.take_succ_cons, List.take_zero] at f2
  obtain ⟨v2, l2, e2, r2, p2⟩ := open_ss f2
  injection e2 with e2 _
  obtain ⟨m3, y3, f3⟩ : ∃ (m : Nat) (y : DataW H × List MemPlace), DataW.trod enc Tryz.prog w 0 spare held m 25 (([c0, c1, c2, c3, c4].drop 3).take (Tryz.prog.cellsOf 25)) = some y := hf 3 _ rfl
  rw [oc_reals] at f3
  simp only [List.drop_zero, List.drop_succ_cons, List.take_succ_cons, List.take_zero] at f3
  obtain ⟨v3, l3, e3, r3, p3⟩ := open_res f3
  injection e3 with e3 _
  obtain ⟨m4, y4, f4⟩ : ∃ (m : Nat) (y : DataW H × List MemPlace), DataW.trod enc Tryz.prog w 0 spare held m 26 (([c0, c1, c2, c3, c4].drop 4).take (Tryz.prog.cellsOf 26)) = some y := hf 4 _ rfl
  rw [oc_instrs] at f4
  simp only [List.drop_zero, List.drop_succ_cons, List.take_succ_cons, List.take_zero] at f4
  obtain ⟨v4, l4, e4, r4, p4⟩ := open_ins f4
  injection e4 with e4 _
  exact ⟨v0, v1, v2, v3, v4, ⟨l0.map (·.d), l1, l2, l3, l4⟩, l0, by rw [e0, e1, e2, e3, e4], ⟨r0, fun x hx => (p0 x hx).1, rfl, r1, r2, r3, r4⟩, ⟨fun d hd => by obtain ⟨x, hx, rfl⟩ := List.mem_map.1 hd; exact (p0 x hx).2, p1, p3, p4⟩⟩
set_option maxRecDepth 100000 in
theorem open_code_arg {b0 : Nat} {v : Value} {d : DataW H} {ps : List MemPlace} (hval : Value.okWide Tryz.prog w .any b0 28 v) (hd : DataW.Trod enc Tryz.prog w 0 (fun _ => true) true 28 v d ps) :
    ∃ dv lv tv rv iv c xs, v = codeV dv lv tv rv iv ∧ RdCo w dv lv tv rv iv c xs ∧ NumC c := by
  obtain ⟨fuel, h⟩ := hd
  obtain ⟨dv, lv, tv, rv, iv, c, xs, hc, h1, h2⟩ := open_code h
  refine ⟨dv, lv, tv, rv, iv, c, xs, ?_, h1, h2⟩
  have hv : ∃ cs, v = .agg cs := by
    simp only [Value.okWide, Tryz.underlying28] at hval
    obtain ⟨cs, e, _⟩ := hval
    exact ⟨cs, e⟩
  obtain ⟨cs, rfl⟩ := hv
  have h3 : cs.toList = [dv, lv, tv, rv, iv] := hc
  unfold codeV
  rw [← h3]
end
end Go.Proofs.YtlaepkmnbbgbcaaGreatDoor
/- The reference's small checks: within, place, Printed. -/
namespace Go.Proofs.YtlaepkmnbbgbcaaGreatDoor
open Go.RowKit Go.Instr Go.Shelf
set_option linter.unusedVariables false
set_option linter.unusedSimpArgs false
attribute [local go_sem] Oper.semAt_some

def wiB (n lo hi : Int) : Bool := decide (lo ≤ n) && decide (n ≤ hi)
theorem within_any {w : World} (n lo hi : Int) : Calls Tryz.prog 94 #[.int .i64 n, .int .i64 lo, .int .i64 hi] w fun e w' => e = .returned (.bool (wiB n lo hi)) ∧ w' = w := by
  by_cases h : lo ≤ n
  · have hr : wiB n lo hi = decide (n ≤ hi) := by unfold wiB; rw [decide_eq_true h]; rfl
    rw [hr]
    go_enter Tryz.func94, Tryz.ntmps94
    go_wp2_with fail
    go_ret
    exact ⟨rfl, rfl⟩
  · have hr : wiB n lo hi = false := by unfold wiB; rw [decide_eq_false h]; rfl
    rw [hr]
    go_enter Tryz.func94, Tryz.ntmps94
    go_wp2_with fail
    go_ret
    exact ⟨rfl, rfl⟩
theorem place_any {w : World} {d l t r : Value} {a : Option Addr} {n c : Nat} (hn : n ≤ 1000000) (hd : ∃ a n c, d = .slice a n c) (hl : ∃ a n c, l = .slice a n c) (ht : ∃ a n c, t = .slice a n c) (hr : ∃ a n c, r = .slice a n c) (x : Int) :
    Calls Tryz.prog 74 #[codeV d l t r (.slice a n c), .int .i64 x] w fun e w' => e = .returned (.bool (wiB x 0 (n - 1))) ∧ Ex w w' := by
  obtain ⟨_, _, _, rfl⟩ := hd
  obtain ⟨_, _, _, rfl⟩ := hl
  obtain ⟨_, _, _, rfl⟩ := ht
  obtain ⟨_, _, _, rfl⟩ := hr
  unfold codeV
  have HX : ∀ W, Hid (Ex w (w.alloc W)) := fun W => Lib.hid ((Keeps.refl _ w).alloc W)
  have s1 : IntKind.i64.wrap ((n : Int) - 1) = (n : Int) - 1 := by simp [IntKind.wrap_i64]; omega
  go_enter Tryz.func74, Tryz.ntmps74
  go_wp2_with fail
  refine (within_any _ _ _).mono ?_
  rintro e w2 ⟨rfl, rfl⟩
  go_wp2_with fail
  go_ret
  exact ⟨rfl, (HX _).out⟩
def prB (s : ByteArray) : Bool := s.data.toList.all fun b => decide (32 ≤ b.toNat) && decide (b.toNat ≤ 126)
end Go.Proofs.YtlaepkmnbbgbcaaGreatDoor
