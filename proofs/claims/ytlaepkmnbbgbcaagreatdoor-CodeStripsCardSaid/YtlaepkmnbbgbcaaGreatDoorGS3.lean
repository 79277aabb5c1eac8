/- The names of the operations: the program's and the reference's. (Written by wip/tools/genQH.py.) Name, Kinds, Op of the reference; Name, Operands, Op of the program. The reference's conditions, in plain Lean: they are those of Check. -/
import Derived.Test.YtlaepkmnbbgbcaaGreatDoorGB16
import Derived.Test.YtlaepkmnbbgbcaaGreatDoorGB14
import Derived.Great.BuildSlice
import Derived.Test.YtlaepkmnbbgbcaaGreatDoorGS2
/- The names of the operations: the program's and the reference's. (Written by wip/tools/genQH.py.) -/
namespace Go.Proofs.YtlaepkmnbbgbcaaGreatDoor
open Go.RowKit Go.Instr Go.Shelf
set_option linter.unusedVariables false
set_option linter.unusedSimpArgs false
attribute [local go_sem] Oper.semAt_some

/-! ### Plain -/
def nmL : List ByteArray := [
  ⟨#[105, 110, 116]⟩,
  ⟨#[105]⟩,
  ⟨#[114, 101, 97, 108]⟩,
  ⟨#[114]⟩,
  ⟨#[98, 111, 111, 108]⟩,
  ⟨#[98]⟩,
  ⟨#[99, 104, 97, 114]⟩,
  ⟨#[99]⟩,
  ⟨#[116, 101, 120, 116]⟩,
  ⟨#[115]⟩,
  ⟨#[110, 111, 110, 101]⟩,
  ⟨#[]⟩,
  ⟨#[111, 98, 106, 101, 99, 116]⟩,
  ⟨#[]⟩,
  ⟨#[110, 111, 116, 104, 105, 110, 103]⟩,
  ⟨#[]⟩,
  ⟨#[115, 101, 109]⟩,
  ⟨#[]⟩,
  ⟨#[112, 111, 112]⟩,
  ⟨#[]⟩,
  ⟨#[112, 105, 99, 107]⟩,
  ⟨#[107]⟩,
  ⟨#[115, 108, 105, 100, 101]⟩,
  ⟨#[107, 107]⟩,
  ⟨#[115, 101, 108, 102]⟩,
  ⟨#[]⟩,
  ⟨#[111, 114, 105, 103, 105, 110]⟩,
  ⟨#[112]⟩,
  ⟨#[99, 101, 108, 108]⟩,
  ⟨#[120]⟩,
  ⟨#[101, 108, 101, 109]⟩,
  ⟨#[107]⟩,
  ⟨#[108, 111, 97, 100]⟩,
  ⟨#[]⟩,
  ⟨#[115, 116, 111, 114, 101]⟩,
  ⟨#[]⟩,
  ⟨#[110, 101, 101, 100]⟩,
  ⟨#[]⟩,
  ⟨#[112, 97, 116, 116, 101, 114, 110]⟩,
  ⟨#[100]⟩,
  ⟨#[118, 105, 114, 116, 117, 97, 108]⟩,
  ⟨#[118]⟩,
  ⟨#[112, 97, 116, 111, 102]⟩,
  ⟨#[]⟩,
  ⟨#[103, 111, 116]⟩,
  ⟨#[]⟩,
  ⟨#[113, 117, 97, 108]⟩,
  ⟨#[]⟩,
  ⟨#[115, 117, 98]⟩,
  ⟨#[]⟩,
  ⟨#[110, 101, 119]⟩,
  ⟨#[104]⟩,
  ⟨#[114, 101, 112]⟩,
  ⟨#[122]⟩,
  ⟨#[114, 101, 115, 105, 122, 101]⟩,
  ⟨#[122]⟩,
  ⟨#[115, 105, 122, 101]⟩,
  ⟨#[]⟩,
  ⟨#[101, 110, 116, 101, 114]⟩,
  ⟨#[107]⟩,
  ⟨#[116, 97, 107, 101]⟩,
  ⟨#[]⟩,
  ⟨#[100, 111]⟩,
  ⟨#[]⟩,
  ⟨#[101, 120, 105, 116]⟩,
  ⟨#[]⟩,
  ⟨#[97, 116, 116, 97, 99, 104]⟩,
  ⟨#[]⟩,
  ⟨#[105, 110, 110, 101, 114]⟩,
  ⟨#[]⟩,
  ⟨#[114, 101, 116, 117, 114, 110]⟩,
  ⟨#[]⟩,
  ⟨#[115, 117, 115, 112, 101, 110, 100]⟩,
  ⟨#[]⟩,
  ⟨#[102, 111, 114, 107]⟩,
  ⟨#[]⟩,
  ⟨#[112, 97, 117, 115, 101]⟩,
  ⟨#[]⟩,
  ⟨#[119, 97, 105, 116]⟩,
  ⟨#[]⟩,
  ⟨#[115, 105, 103, 110, 97, 108]⟩,
  ⟨#[]⟩,
  ⟨#[106, 117, 109, 112]⟩,
  ⟨#[97]⟩,
  ⟨#[106, 117, 109, 112, 102, 97, 108, 115, 101]⟩,
  ⟨#[97]⟩,
  ⟨#[108, 97, 98, 101, 108]⟩,
  ⟨#[108]⟩,
  ⟨#[101, 110, 100]⟩,
  ⟨#[]⟩,
  ⟨#[108, 101, 97, 118, 101]⟩,
  ⟨#[108]⟩,
  ⟨#[114, 101, 115, 116, 97, 114, 116]⟩,
  ⟨#[108]⟩,
  ⟨#[111, 110, 101]⟩,
  ⟨#[117]⟩,
  ⟨#[116, 119, 111]⟩,
  ⟨#[119]⟩,
  ⟨#[99, 111, 110, 118, 101, 114, 116]⟩,
  ⟨#[116]⟩,
  ⟨#[112, 117, 116]⟩,
  ⟨#[]⟩,
  ⟨#[103, 101, 116]⟩,
  ⟨#[]⟩,
  ⟨#[109, 97, 114, 107]⟩,
  ⟨#[109]⟩,
  ⟨#[116, 114, 97, 112]⟩,
  ⟨#[101]⟩,
  ⟨#[114, 111, 111, 116]⟩,
  ⟨#[]⟩]
def isOp (n : Int) : Bool := decide (1 ≤ n ∧ n ≤ 55)
def rnm (n : Int) : ByteArray := if isOp n then nmL.getD (2 * n - 2).toNat ⟨#[]⟩ else ⟨#[]⟩
def rkn (n : Int) : ByteArray := if isOp n then nmL.getD (2 * n - 1).toNat ⟨#[]⟩ else ⟨#[]⟩
def ropL (s : ByteArray) : List Nat → Int
  | [] => 0
  | k :: r => if rnm k = s then k else ropL s r
def rop (s : ByteArray) : Int := ropL s (List.range' 1 55)
def Ck.some : Ck → Bool
  | .none => false
  | _ => true
def opCount (o : Op1) : Int := if o.b.some then 2 else if o.a.some then 1 else 0
theorem nm_table : (opT.all fun o => isOp o.key && decide (rnm o.key = o.name) && decide (((rkn o.key).size : Nat) = opCount o) && !o.name.toList.isEmpty) = true := by decide +kernel
theorem nm_all : ((List.range' 1 55).all fun k => opT.any fun o => decide (o.key = k)) = true := by decide +kernel
theorem opFind_some {n : Int} {o : Op1} (h : opFind n = some o) : o.key = n ∧ isOp n = true ∧ rnm n = o.name ∧ ((rkn n).size : Int) = opCount o := by
  have hk : o.key = n := by simpa [opFind] using List.find?_some h
  have hm := List.mem_of_find?_eq_some h
  have ht := List.all_eq_true.1 nm_table o hm
  simp only [Bool.and_eq_true, decide_eq_true_eq] at ht
  rw [hk] at ht
  exact ⟨hk, ht.1.1.1, ht.1.1.2, ht.1.2⟩
theorem opFind_none {n : Int} (h : opFind n = none) : isOp n = false := by
  cases hn : isOp n with
  | false => rfl
  | true =>
    exfalso
    unfold isOp at hn
    simp only [decide_eq_true_eq] at hn
    have hk : n.toNat ∈ List.range' 1 55 := by rw [List.mem_range'_1]; omega
    have := List.all_eq_true.1 nm_all _ hk
    obtain ⟨o, ho, hok⟩ := List.any_eq_true.1 this
    simp only [decide_eq_true_eq] at hok
    have := List.find?_eq_none.1 h o ho
    simp only [decide_eq_true_eq] at this
    omega
theorem rop_spec (s : ByteArray) : ∀ l : List Nat, (ropL s l = 0 ∧ ∀ k ∈ l, k ≠ 0 → rnm k ≠ s) ∨ ∃ k ∈ l, ropL s l = (k : Int) ∧ rnm k = s
  | [] => .inl ⟨rfl, fun _ h => by cases h⟩
  | k :: r => by
    unfold ropL
    by_cases e : rnm k = s
    · rw [if_pos e]; exact .inr ⟨k, by simp, rfl, e⟩
    · rw [if_neg e]
      rcases rop_spec s r with ⟨h1, h2⟩ | ⟨j, hj, h1, h2⟩
      · refine .inl ⟨h1, fun j hj => ?_⟩
        rcases List.mem_cons.1 hj with rfl | hj
        · exact fun _ => e
        · exact h2 j hj
      · exact .inr ⟨j, by simp [hj], h1, h2⟩
theorem rnm_inj {m n : Int} (hm : isOp m = true) (hn : isOp n = true) (h : rnm m = rnm n) : m = n := by
  cases hf : opFind m with
  | none => rw [opFind_none hf] at hm; cases hm
  | some o =>
    cases hg : opFind n with
    | none => rw [opFind_none hg] at hn; cases hn
    | some q =>
      obtain ⟨a1, -, a3, -⟩ := opFind_some hf
      obtain ⟨b1, -, b3, -⟩ := opFind_some hg
      have := opT_name_inj (List.mem_of_find?_eq_some hf) (List.mem_of_find?_eq_some hg) (by rw [← a3, ← b3, h])
      rw [← a1, ← b1, this]
theorem rop_of_op {o : Op1} (ho : o ∈ opT) : rop o.name = o.key := by
  have hf : opFind o.key = some o := find_key opT_keys ho
  obtain ⟨-, h1, h2, -⟩ := opFind_some hf
  have hr := rop_spec o.name (List.range' 1 55)
  have hk : o.key.toNat ∈ List.range' 1 55 := by
    unfold isOp at h1; simp only [decide_eq_true_eq] at h1
    rw [List.mem_range'_1]; omega
  have hnn : ((o.key.toNat : Nat) : Int) = o.key := by unfold isOp at h1; simp only [decide_eq_true_eq] at h1; omega
  rcases hr with ⟨h3, h4⟩ | ⟨k, hk2, h3, h4⟩
  · exact absurd (by rw [hnn]; exact h2) (h4 _ hk (by unfold isOp at h1; simp only [decide_eq_true_eq] at h1; omega))
  · show ropL _ _ = _
    rw [h3]
    have : isOp k = true := by rw [List.mem_range'_1] at hk2; unfold isOp; simp only [decide_eq_true_eq]; omega
    exact rnm_inj this h1 (by rw [h4, h2])
theorem rop_none {s : ByteArray} (h : ∀ o ∈ opT, o.name ≠ s) : rop s = 0 := by
  rcases rop_spec s (List.range' 1 55) with ⟨h3, -⟩ | ⟨k, hk, h3, h4⟩
  · exact h3
  · exfalso
    have hi : isOp k = true := by rw [List.mem_range'_1] at hk; unfold isOp; simp only [decide_eq_true_eq]; omega
    cases hf : opFind k with
    | none => rw [opFind_none hf] at hi; cases hi
    | some o =>
      obtain ⟨-, -, a3, -⟩ := opFind_some hf
      exact h o (List.mem_of_find?_eq_some hf) (by rw [← a3, h4])

/-! ### The reference -/
theorem isop_any {w : World} (n : Int) : Calls Tryz.prog 32 #[.int .i64 n] w fun e w' => e = .returned (.bool (isOp n)) ∧ w' = w := by
  have e : isOp n = (decide (1 ≤ n) && decide (n ≤ 55)) := by unfold isOp; by_cases h1 : 1 ≤ n <;> by_cases h2 : n ≤ 55 <;> simp [h1, h2]
  rw [e]
  go_enter Tryz.func32, Tryz.ntmps32
  by_cases h1 : 1 ≤ n
  · by_cases h2 : n ≤ 55
    · go_wp2_with fail
      go_ret
      simp [h1, h2]
    · go_wp2_with fail
      go_ret
      simp [h1, h2]
  · go_wp2_with fail
    go_ret
    simp [h1]
    intro h; omega
theorem encS_map : ∀ l : List ByteArray, l.flatMap encS = l.map Value.string
  | [] => rfl
  | x :: r => by rw [List.flatMap_cons, encS_map r]; rfl
theorem nmL_len : nmL.length = 110 := by decide +kernel
theorem info_strS : (Tryz.prog.info? 9).map (fun i => (i.zero, i.size, i.bytes)) = some (some (.string ⟨#[]⟩), 1, 16) := by kernel_rfl
theorem parts_strs (a : Act) (parts : Array (Nat × Operand)) (zs : List ByteArray) (hparts : parts.toList = (zs.zipIdx 0).map fun x => (x.2, Operand.const (Value.string x.1))) :
    (parts.map fun (i, x) => (i, a.eval x)).toList = ((zs.map Value.string).zipIdx 0).map fun x => (x.2, x.1) := by
  rw [Array.toList_map, hparts, List.zipIdx_map, List.map_map, List.map_map]
  rfl
set_option maxRecDepth 100000 in
set_option maxHeartbeats 2000000 in
theorem names_any {w : World} : Calls Tryz.prog 87 #[] w fun e w' => ∃ v, e = .returned v ∧ RdL encS w' v nmL ∧ Ex w w' := by
  obtain ⟨n, hn⟩ : ∃ n, w.heap.size = n := ⟨_, rfl⟩
  obtain ⟨W1, hW1⟩ : ∃ W1, w.alloc (.cells (nmL.map Value.string).toArray 9) = W1 := ⟨_, rfl⟩
  have hR : RdL encS W1 (.slice (some ⟨n, 0, none⟩) 110 110) nmL := by
    have h1 : RdL encS W1 (.slice (some ⟨n, 0, none⟩) nmL.length 110) nmL := Blk.rd (l := nmL) (c := 110) (t := 9) (by rw [encS_map, ← hW1, ← hn]; exact Blk.new w _ _) (by rw [nmL_len]; exact Nat.le_refl _)
    rw [nmL_len] at h1; exact h1
  have hx : Ex w W1 := by rw [← hW1]; exact (Keeps.refl _ w).alloc _
  have HR := Lib.hid hR; have HX := Lib.hid hx; have HW1 := Lib.hid hW1; have Hn := Lib.hid hn
  clear hR hx hW1 hn
  go_enter Tryz.func87, Tryz.ntmps87
  go_wp2_with fail
  obtain ⟨i0, hi, hz0, hz1, hz2⟩ := info_split info_strS
  refine wp_buildSlice 24 9 110 _ rfl (nmL.map Value.string).toArray i0 _ Tryz.underlying24 hi hz0 (by rw [hz1]; decide) (by rw [hz1]; decide) ?_ ?_
  · rw [parts_strs _ _ nmL (by kernel_rfl), hz1]
    exact Great.fill_flat _ _ (fun v hv => by obtain ⟨n, _, rfl⟩ := List.mem_map.1 hv; rfl) (by rw [List.length_map, nmL_len]; simp)
  · rw [Hn.out, HW1.out]
    go_wp2_with fail
    go_ret
    exact ⟨_, rfl, HR.out, HX.out⟩
end Go.Proofs.YtlaepkmnbbgbcaaGreatDoor
/- Name, Kinds, Op of the reference; Name, Operands, Op of the program. -/
namespace Go.Proofs.YtlaepkmnbbgbcaaGreatDoor
open Go.RowKit Go.Instr Go.Shelf
set_option linter.unusedVariables false
set_option linter.unusedSimpArgs false
attribute [local go_sem] Oper.semAt_some

theorem isOp_of {n : Int} (h : isOp n = true) : 1 ≤ n ∧ n ≤ 55 := by unfold isOp at h; simpa using h
theorem nm_get {w : World} {ad : Addr} (h : RdL encS w (.slice (some ad) 110 110) nmL) {j : Nat} (hj : j < 110) : w.cell? (ad.add j) = some (.string (nmL.getD j ⟨#[]⟩)) := by
  have hx : nmL[j]? = some (nmL.getD j ⟨#[]⟩) := by
    rw [List.getD_eq_getElem?_getD, List.getElem?_eq_getElem (by rw [nmL_len]; exact hj)]; rfl
  have := h.at encS_len hx 0 (by omega)
  rw [Addr.add_zero', Nat.mul_one] at this
  exact this
theorem names_form {w : World} {v : Value} (h : RdL encS w v nmL) : ∃ ad c, v = .slice (some ad) 110 c := by
  obtain ⟨a, c, rfl, -, h0, -⟩ := h
  cases a with
  | none => have := h0 rfl; exact absurd (congrArg List.length this) (by rw [nmL_len]; decide)
  | some ad => exact ⟨ad, c, by rw [nmL_len]⟩
set_option maxRecDepth 100000 in
theorem rname_any {w : World} (n : Int) : Calls Tryz.prog 33 #[.int .i64 n] w fun e w' => e = .returned (.string (rnm n)) ∧ Ex w w' := by
  cases hi : isOp n with
  | false =>
    have hr : rnm n = ⟨#[]⟩ := by unfold rnm; rw [hi]; rfl
    rw [hr]
    go_enter Tryz.func33, Tryz.ntmps33
    go_wp2_with (go_at_call 32; refine (isop_any n).mono ?_; rintro e w1 ⟨rfl, rfl⟩; rw [hi])
    go_ret
    exact ⟨rfl, Keeps.refl _ _⟩
  | true =>
    obtain ⟨h1, h2⟩ := isOp_of hi
    have hr : rnm n = nmL.getD (2 * n - 2).toNat ⟨#[]⟩ := by unfold rnm; rw [hi]; rfl
    rw [hr]
    obtain ⟨j, hj⟩ : ∃ j : Nat, n = (j : Int) + 1 := ⟨(n - 1).toNat, by omega⟩
    subst hj
    have hj2 : (2 * ((j : Int) + 1) - 2).toNat = 2 * j := by omega
    rw [hj2]
    have hjl : 2 * j < 110 := by omega
    have q1 : IntKind.i64.wrap (2 * ((j : Int) + 1)) = 2 * (j : Int) + 2 := by simp [IntKind.wrap_i64]; omega
    have q2 : IntKind.i64.wrap (2 * (j : Int) + 2 - 2) = 2 * (j : Int) := by simp [IntKind.wrap_i64]; omega
    have q3 : (2 * (j : Int)) < 110 := by omega
    have q4 : (0 : Int) ≤ 2 * (j : Int) := by omega
    have q5 : (2 * (j : Int)).toNat = 2 * j := by omega
    obtain ⟨s, hs⟩ : ∃ s, nmL.getD (2 * j) ⟨#[]⟩ = s := ⟨_, rfl⟩
    rw [hs]
    have Hs := Lib.hid hs
    have Hi := Lib.hid hi
    have Hjl := Lib.hid hjl
    clear hs hr hj2 hi h1 h2 hjl
    go_enter Tryz.func33, Tryz.ntmps33
    go_wp2_with (go_at_call 32; refine (isop_any _).mono ?_; rintro e w1 ⟨rfl, rfl⟩; rw [Hi.out])
    refine names_any.mono ?_
    rintro e w2 ⟨v, rfl, hr, hx⟩
    obtain ⟨ad, c, rfl⟩ := names_form hr
    have z : w2.cell? (ad.add (2 * j)) = some (.string s) := by
      have hx : nmL[2 * j]? = some (nmL.getD (2 * j) ⟨#[]⟩) := by
        rw [List.getD_eq_getElem?_getD, List.getElem?_eq_getElem (by rw [nmL_len]; exact Hjl.out)]; rfl
      have hr2 := hr
      rw [← nmL_len] at hr2
      have := hr2.at encS_len hx 0 (by omega)
      rw [Addr.add_zero', Nat.mul_one, Hs.out] at this
      exact this
    have HX := Lib.hid hx
    clear hr hx
    go_wp2_with fail
    go_ret
    exact ⟨rfl, HX.out⟩
set_option maxRecDepth 100000 in
theorem rkinds_any {w : World} (n : Int) : Calls Tryz.prog 34 #[.int .i64 n] w fun e w' => e = .returned (.string (rkn n)) ∧ Ex w w' := by
  cases hi : isOp n with
  | false =>
    have hr : rkn n = ⟨#[]⟩ := by unfold rkn; rw [hi]; rfl
    rw [hr]
    go_enter Tryz.func34, Tryz.ntmps34
    go_wp2_with (go_at_call 32; refine (isop_any n).mono ?_; rintro e w1 ⟨rfl, rfl⟩; rw [hi])
    go_ret
    exact ⟨rfl, Keeps.refl _ _⟩
  | true =>
    obtain ⟨h1, h2⟩ := isOp_of hi
    have hr : rkn n = nmL.getD (2 * n - 1).toNat ⟨#[]⟩ := by unfold rkn; rw [hi]; rfl
    rw [hr]
    obtain ⟨j, hj⟩ : ∃ j : Nat, n = (j : Int) + 1 := ⟨(n - 1).toNat, by omega⟩
    subst hj
    have hj2 : (2 * ((j : Int) + 1) - 1).toNat = 2 * j + 1 := by omega
    rw [hj2]
    have hjl : 2 * j + 1 < 110 := by omega
    have q1 : IntKind.i64.wrap (2 * ((j : Int) + 1)) = 2 * (j : Int) + 2 := by simp [IntKind.wrap_i64]; omega
    have q2 : IntKind.i64.wrap (2 * (j : Int) + 2 - 1) = 2 * (j : Int) + 1 := by simp [IntKind.wrap_i64]; omega
    have q3 : (2 * (j : Int)) + 1 < 110 := by omega
    have q6 : IntKind.i64.wrap (2 * (j : Int) + 1) = 2 * (j : Int) + 1 := by simp [IntKind.wrap_i64]; omega
    have q4 : (0 : Int) ≤ 2 * (j : Int) + 1 := by omega
    have q5 : (2 * (j : Int) + 1).toNat = 2 * j + 1 := by omega
    obtain ⟨s, hs⟩ : ∃ s, nmL.getD (2 * j + 1) ⟨#[]⟩ = s := ⟨_, rfl⟩
    rw [hs]
    have Hs := Lib.hid hs
    have Hi := Lib.hid hi
    have Hjl := Lib.hid hjl
    clear hs hr hj2 hi h1 h2 hjl
    go_enter Tryz.func34, Tryz.ntmps34
    go_wp2_with (go_at_call 32; refine (isop_any _).mono ?_; rintro e w1 ⟨rfl, rfl⟩; rw [Hi.out])
    refine names_any.mono ?_
    rintro e w2 ⟨v, rfl, hr, hx⟩
    obtain ⟨ad, c, rfl⟩ := names_form hr
    have z : w2.cell? (ad.add (2 * j + 1)) = some (.string s) := by
      have hx : nmL[2 * j + 1]? = some (nmL.getD (2 * j + 1) ⟨#[]⟩) := by
        rw [List.getD_eq_getElem?_getD, List.getElem?_eq_getElem (by rw [nmL_len]; exact Hjl.out)]; rfl
      have hr2 := hr
      rw [← nmL_len] at hr2
      have := hr2.at encS_len hx 0 (by omega)
      rw [Addr.add_zero', Nat.mul_one, Hs.out] at this
      exact this
    have HX := Lib.hid hx
    clear hr hx
    rw [show ad.add (2 * j + 1) = ⟨ad.block, ad.off + (2 * j + 1), none⟩ from by simp [Addr.add]] at z
    go_wp2_with fail
    go_ret
    exact ⟨rfl, HX.out⟩
theorem toList_ne {a b : ByteArray} (h : ¬ a = b) : (a.toList == b.toList) = false := by
  rw [beq_eq_false_iff_ne]
  exact fun e => h (ByteArray.ext (Array.ext' (by simpa [Go.ByteArray.toList_eq] using e)))
theorem range_cons {k : Nat} (h : k ≤ 55) : List.range' k (56 - k) = k :: List.range' (k + 1) (56 - (k + 1)) := by
  rw [show 56 - k = (56 - (k + 1)) + 1 by omega, List.range'_succ]
set_option maxRecDepth 100000 in
theorem rop_any {w : World} (s : ByteArray) : Calls Tryz.prog 35 #[.string s] w fun e w' => e = .returned (.int .i64 (rop s)) ∧ Ex w w' := by
  have HX0 : Hid (Ex w w) := Lib.hid (Keeps.refl _ _)
  have HR0 : Hid (rop s = ropL s (List.range' 1 (56 - 1))) := Lib.hid rfl
  generalize hR : rop s = R at HR0 ⊢
  clear hR
  go_enter Tryz.func35, Tryz.ntmps35
  go_wp2_with fail
  go_loopw [3] (fun u wr => ∃ k : Nat, 1 ≤ k ∧ k ≤ 56 ∧ u = .int .i64 k ∧ Hid (Ex w wr) ∧ Hid (R = ropL s (List.range' k (56 - k)))) (fun u wr => 57 - (intOf u).toNat)
  case atStart => exact ⟨1, by omega, by omega, rfl, HX0, HR0⟩
  case round =>
    obtain ⟨k, hk1, hk2, rfl, HX, HR⟩ := hrel
    by_cases hlt : k ≤ 55
    case pos =>
      have hi : isOp k = true := by unfold isOp; simp only [decide_eq_true_eq]; omega
      have Hi := Lib.hid hi
      have HR2 := HR.out
      rw [range_cons hlt] at HR2
      unfold ropL at HR2
      obtain ⟨q, hq⟩ : ∃ q, rnm k = q := ⟨_, rfl⟩
      rw [hq] at HR2
      have HN := Lib.hid (rname_any (w := wr) (k : Int))
      rw [hq] at HN
      by_cases he : q = s
      · subst he
        rw [if_pos rfl] at HR2
        have hb : (q.toList == q.toList) = true := by simp
        have HR3 := Lib.hid HR2
        clear HR2 hq hi HR
        go_wp2_with (go_at_call 32; refine (isop_any _).mono ?_; rintro e w1 ⟨rfl, rfl⟩; rw [Hi.out])
        refine HN.out.mono ?_
        rintro e w2 ⟨rfl, hx⟩
        have HX2 := Lib.hid (HX.out.trans hx)
        clear hx HN HX
        go_wp2_with fail
        go_ret
        exact ⟨by rw [HR3.out]; rfl, HX2.out⟩
      · rw [if_neg he] at HR2
        have HR3 := Lib.hid HR2
        have hne : (q.toList == s.toList) = false := toList_ne he
        clear HR2 hq hi HR
        go_wp2_with (go_at_call 32; refine (isop_any _).mono ?_; rintro e w1 ⟨rfl, rfl⟩; rw [Hi.out])
        refine HN.out.mono ?_
        rintro e w2 ⟨rfl, hx⟩
        have HX2 := Lib.hid (HX.out.trans hx)
        clear hx HN HX
        go_wp2_with fail
        refine ⟨⟨k + 1, ?_, ?_, by go_num, HX2, HR3⟩, by show 57 - ((k : Int) + 1).toNat < 57 - ((k : Nat) : Int).toNat; omega⟩ <;> omega
    case neg =>
      have : k = 56 := by omega
      subst this
      have hi : isOp 56 = false := by decide
      have Hi := Lib.hid hi
      have HR3 : Hid (R = 0) := Lib.hid HR.out
      clear hi hlt HR
      go_wp2_with (go_at_call 32; refine (isop_any _).mono ?_; rintro e w1 ⟨rfl, rfl⟩; rw [Hi.out])
      go_ret
      exact ⟨by rw [HR3.out]; rfl, HX.out⟩
end Go.Proofs.YtlaepkmnbbgbcaaGreatDoor
/- The reference's conditions, in plain Lean: they are those of Check. -/
namespace Go.Proofs.YtlaepkmnbbgbcaaGreatDoor
open Go.RowKit
set_option linter.unusedVariables false
set_option linter.unusedSimpArgs false

/-! ### Operands -/
/-- The kind of an operand. -/
def kd (op : Int) (i : Nat) : Nat := ((rkn op ++ ⟨#[95, 95]⟩).data.toList.getD i 0).toNat
def opB (c : Co) (k : Nat) (n : Int) : Bool :=
  if k = 105 then wiB n 0 (c.texts.length - 1) && intB (c.texts.getD n.toNat ⟨#[]⟩)
  else if k = 115 then wiB n 0 (c.texts.length - 1)
  else if k = 114 then wiB n 0 (c.reals.length - 1)
  else if k = 98 then wiB n 0 1
  else if k = 104 then wiB n 0 2
  else if k = 99 then wiB n 32 126
  else if k = 107 then wiB n 0 199
  else if k = 112 then wiB n 0 39
  else if k = 120 then wiB n 0 1499
  else if k = 100 then wiB n 0 (c.descs.length - 1)
  else if k = 118 then wiB n 0 1999
  else if k = 109 then wiB n 0 1999
  else if k = 122 then wiB n 1 8
  else if k = 108 then wiB n 0 (c.labels.length - 1)
  else if k = 97 then wiB n 0 (c.instrs.length - 1)
  else if k = 117 then wiB n 1 2
  else if k = 119 then wiB n 3 17
  else if k = 116 then wiB n 1 5
  else if k = 101 then wiB n 3 15
  else decide (n = 0)
def kinds20 : List Nat := [105, 115, 114, 98, 104, 99, 107, 112, 120, 100, 118, 109, 122, 108, 97, 117, 119, 116, 101, 95]
def km : Ck → Nat → Bool
  | .none, k => decide (k = 95)
  | .btw lo hi, k => [(98, 0, 1), (104, 0, 2), (99, 32, 126), (107, 0, 199), (112, 0, 39), (120, 0, 1499), (118, 0, 1999), (109, 0, 1999), (122, 1, 8), (117, 1, 2), (119, 3, 17), (116, 1, 5), (101, 3, 15)].any fun (q : Nat × Int × Int) => decide (q.1 = k) && decide (q.2.1 = lo) && decide (q.2.2 = hi)
  | .idx f, k => (decide (f = 102) && decide (k = 97)) || (decide (f = 103) && decide (k = 108)) || (decide (f = 104) && decide (k = 100)) || (decide (f = 106) && decide (k = 114))
  | .int, k => decide (k = 105)
  | .text, k => decide (k = 115)
theorem km_table : (opT.all fun o => km o.a (kd o.key 0) && km o.b (kd o.key 1) && isOp o.key) = true := by decide +kernel
theorem kd_table : ((List.range' 1 55).all fun k => decide (kd k 0 ∈ kinds20) && decide (kd k 1 ∈ kinds20) && decide ((rkn k).size ≤ 2)) = true := by decide +kernel
theorem op_table : ((List.range' 1 55).all fun k => opT.any fun o => decide (o.key = k)) = true := by decide +kernel
theorem kd_in {op : Int} (h : isOp op = true) : kd op 0 ∈ kinds20 ∧ kd op 1 ∈ kinds20 ∧ (rkn op).size ≤ 2 := by
  unfold isOp at h
  rw [decide_eq_true_eq] at h
  have := List.all_eq_true.1 kd_table op.toNat (by rw [List.mem_range'_1]; omega)
  rw [show ((op.toNat : Nat) : Int) = op by omega] at this
  simpa [and_assoc] using this
theorem km_eq {c : Co} (hp : ∀ s ∈ c.texts, plainB s = true) {q : Ck} {k : Nat} (h : km q k = true) (n : Int) : ckB c q n = opB c k n := by
  cases q with
  | none =>
    simp only [km, decide_eq_true_eq] at h
    subst h
    simp [opB, ckB]
  | btw lo hi =>
    have hw : ∀ a b : Int, ckB c (.btw a b) n = wiB n a b := by
      intro a b; unfold ckB wiB; rw [Bool.eq_iff_iff]; simp
    rw [hw]
    simp only [km, List.any_cons, List.any_nil, Bool.or_false, Bool.or_eq_true, Bool.and_eq_true, decide_eq_true_eq] at h
    rcases h with h | h | h | h | h | h | h | h | h | h | h | h | h <;> (obtain ⟨⟨rfl, rfl⟩, rfl⟩ := h; rfl)
  | idx f =>
    have hw : ∀ m : Nat, decide (0 ≤ n ∧ n < (m : Int)) = wiB n 0 ((m : Int) - 1) := by
      intro m; unfold wiB; rw [Bool.eq_iff_iff]; simp; omega
    simp only [km, Bool.or_eq_true, Bool.and_eq_true, decide_eq_true_eq] at h
    rcases h with ((h | h) | h) | h <;> (obtain ⟨rfl, rfl⟩ := h; simp only [ckB, hw]; rfl)
  | int =>
    have hw : ∀ m : Nat, decide (0 ≤ n ∧ n < (m : Int)) = wiB n 0 ((m : Int) - 1) := by
      intro m; unfold wiB; rw [Bool.eq_iff_iff]; simp; omega
    simp only [km, decide_eq_true_eq] at h
    subst h
    simp only [ckB, hw]; rfl
  | text =>
    simp only [km, decide_eq_true_eq] at h
    subst h
    simp only [ckB]
    show _ = wiB n 0 (c.texts.length - 1)
    unfold wiB
    by_cases h0 : 0 ≤ n ∧ n < (c.texts.length : Nat)
    · have hm : n.toNat < c.texts.length := by omega
      have := hp (c.texts.getD n.toNat ⟨#[]⟩) (by rw [List.getD_eq_getElem?_getD, List.getElem?_eq_getElem hm]; exact List.getElem_mem hm)
      rw [this, decide_eq_true h0, decide_eq_true h0.1, decide_eq_true (by omega)]
    · rw [decide_eq_false h0, Bool.false_and]
      symm
      rw [Bool.and_eq_false_iff, decide_eq_false_iff_not, decide_eq_false_iff_not]
      omega
/-- What the reference asks of an instruction. -/
def insR (c : Co) (x : Ins) : Bool := isOp x.op && opB c (kd x.op 0) x.a && opB c (kd x.op 1) x.b
theorem ins_iff {c : Co} (hp : ∀ s ∈ c.texts, plainB s = true) (x : Ins) : insE c x = 0 ↔ insR c x = true := by
  unfold insE insR
  cases hf : opFind x.op with
  | none =>
    have hn : isOp x.op = false := by
      cases h : isOp x.op with
      | false => rfl
      | true =>
        exfalso
        unfold isOp at h
        rw [decide_eq_true_eq] at h
        have := List.all_eq_true.1 op_table x.op.toNat (by rw [List.mem_range'_1]; omega)
        rw [show ((x.op.toNat : Nat) : Int) = x.op by omega] at this
        obtain ⟨o, ho, hk⟩ := List.any_eq_true.1 this
        have := List.find?_eq_none.1 hf o ho
        exact this hk
    rw [hn]; simp
  | some o =>
    have hk : o.key = x.op := by simpa [opFind] using List.find?_some hf
    have hm := List.mem_of_find?_eq_some hf
    have ht := List.all_eq_true.1 km_table o hm
    simp only [Bool.and_eq_true] at ht
    rw [hk] at ht
    simp only
    rw [km_eq hp ht.1.1, km_eq hp ht.1.2, ht.2, Bool.true_and]
    split <;> simp_all

/-- A real is as the reference asks. -/
def rvB (x : Int × Int) : Bool := if x.1 = 0 then decide (x.2 = 0) else decide ((dgs x.1.natAbs).length = 12) && wiB x.2 (-111) 88
theorem real_iff (x : Int × Int) : realB x = (rvB x && decide (0 ≤ x.1)) := by
  unfold realB rvB wiB
  by_cases h : x.1 = 0
  · rw [if_pos h, if_pos h, decide_eq_true (by omega : 0 ≤ x.1), Bool.and_true]
  · rw [if_neg h, if_neg h, Bool.eq_iff_iff]
    simp only [Bool.and_eq_true, decide_eq_true_eq, dgs_twelve]
    omega

/-! ### Descriptors -/
def prevB (c : Co) (d : De) : Bool :=
  if 1 < d.chain.length then
    let p := c.de (d.chain.getD (d.chain.length - 2) 0)
    decide (0 ≤ p.offset) && decide (p.offset ≤ 1500) && decide (0 ≤ p.cells) && decide (p.cells ≤ 1500)
  else true
def descR (c : Co) (i : Nat) : Bool := descB c i && prevB c (c.de i)
theorem level_of {c : Co} {i : Nat} {d : De} (h : chainB c i d = true) {q : Nat} (hq : q < d.chain.length) : levelB c d q = true := by
  unfold chainB at h
  simp only [Bool.and_eq_true] at h
  exact List.all_eq_true.1 h.2 q (List.mem_range.2 hq)
theorem chain_of {c : Co} {i : Nat} (h : descB c i = true) : chainB c i (c.de i) = true := by
  unfold descB at h
  simp only [Bool.and_eq_true] at h
  exact h.1.1.1.1.1.1.1.1.1.1.1.1.1.2
theorem offs_of {c : Co} {i : Nat} (h : descB c i = true) : 0 ≤ (c.de i).offset ∧ 0 ≤ (c.de i).cells ∧ (c.de i).offset ≤ 1500 ∧ (c.de i).cells ≤ 1500 - (c.de i).offset := by
  unfold descB at h
  simp only [Bool.and_eq_true, decide_eq_true_eq] at h
  have h2 := h.1.1.1.1.1.1.1.1.1
  exact ⟨h2.1.1.1.2, h2.1.1.2, h2.1.2, h2.2⟩
theorem descs_iff (c : Co) : (∀ i, i < c.descs.length → descB c i = true) ↔ (∀ i, i < c.descs.length → descR c i = true) := by
  constructor
  · intro h i hi
    unfold descR
    rw [h i hi, Bool.true_and]
    unfold prevB
    split
    · rename_i hl
      have hc := chain_of (h i hi)
      have hv := level_of hc (q := (c.de i).chain.length - 2) (by omega)
      unfold levelB at hv
      simp only [Bool.and_eq_true, decide_eq_true_eq] at hv
      obtain ⟨m, hm⟩ : ∃ m : Nat, (c.de i).chain.getD ((c.de i).chain.length - 2) 0 = m := ⟨((c.de i).chain.getD ((c.de i).chain.length - 2) 0).toNat, by omega⟩
      rw [hm] at hv ⊢
      have ho := offs_of (h m (by omega))
      simp only [Bool.and_eq_true, decide_eq_true_eq]
      omega
    · rfl
  · intro h i hi
    have := h i hi
    unfold descR at this
    rw [Bool.and_eq_true] at this
    exact this.1
/-- What the reference asks of a code. -/
structure FineR (c : Co) : Prop where
  i1 : 1 ≤ c.instrs.length
  i2 : c.instrs.length ≤ 20000
  d1 : 1 ≤ c.descs.length
  d2 : c.descs.length ≤ 2000
  l2 : c.labels.length ≤ 2000
  t2 : c.texts.length ≤ 2000
  r2 : c.reals.length ≤ 2000
  descs : ∀ i, i < c.descs.length → descR c i = true
  labels : ∀ l ∈ c.labels, insideB c l.1 = true ∧ insideB c l.2 = true
  texts : ∀ s ∈ c.texts, plainB s = true
  reals : ∀ x ∈ c.reals, (rvB x && decide (0 ≤ x.1)) = true
  instrs : ∀ x ∈ c.instrs, insR c x = true
theorem fineR_iff (c : Co) : FineR c ↔ Good c := by
  constructor
  · intro g
    exact ⟨g.i1, g.i2, g.d1, g.d2, g.l2, g.t2, g.r2, (descs_iff c).2 g.descs, g.labels, g.texts, fun x hx => by rw [real_iff]; exact g.reals x hx, fun x hx => (ins_iff g.texts x).2 (g.instrs x hx)⟩
  · intro g
    exact ⟨g.i1, g.i2, g.d1, g.d2, g.l2, g.t2, g.r2, (descs_iff c).1 g.descs, g.labels, g.texts, fun x hx => by rw [← real_iff]; exact g.reals x hx, fun x hx => (ins_iff g.texts x).1 (g.instrs x hx)⟩
end Go.Proofs.YtlaepkmnbbgbcaaGreatDoor
