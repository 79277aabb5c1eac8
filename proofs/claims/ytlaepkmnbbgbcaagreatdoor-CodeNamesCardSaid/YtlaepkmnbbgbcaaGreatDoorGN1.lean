/- The names of the operations: the program's and the reference's. (Written by wip/tools/genQH.py.) Name, Kinds, Op of the reference; Name, Operands, Op of the program. Name, Operands, Op of the program. CodeNames returns true. -/
import Derived.Test.YtlaepkmnbbgbcaaGreatDoorGB16
import Derived.Test.YtlaepkmnbbgbcaaGreatDoorGB14
import Derived.Great.BuildSlice
import Derived.Test.YtlaepkmnbbgbcaaGreatDoorGB18
/- The names of the operations: the program's and the reference's. (Written by wip/tools/genQH.py.) -/
namespace Go.Proofs.YtlaepkmnbbgbcaaGreatDoor
open Go.RowKit Go.Instr Go.Shelf
set_option linter.unusedVariables false
set_option linter.unusedSimpArgs false
attribute [local go_sem] Oper.semAt_some

/-! ### Plain -/
def nmL : List ByteArray := [
  ⟨#[105, 110, 116]⟩,
  ⟨#[105]⟩,
  ⟨#[114, 101, 97, 108]⟩,
  ⟨#[114]⟩,
  ⟨#[98, 111, 111, 108]⟩,
  ⟨#[98]⟩,
  ⟨#[99, 104, 97, 114]⟩,
  ⟨#[99]⟩,
  ⟨#[116, 101, 120, 116]⟩,
  ⟨#[115]⟩,
  ⟨#[110, 111, 110, 101]⟩,
  ⟨#[]⟩,
  ⟨#[111, 98, 106, 101, 99, 116]⟩,
  ⟨#[]⟩,
  ⟨#[110, 111, 116, 104, 105, 110, 103]⟩,
  ⟨#[]⟩,
  ⟨#[115, 101, 109]⟩,
  ⟨#[]⟩,
  ⟨#[112, 111, 112]⟩,
  ⟨#[]⟩,
  ⟨#[112, 105, 99, 107]⟩,
  ⟨#[107]⟩,
  ⟨#[115, 108, 105, 100, 101]⟩,
  ⟨#[107, 107]⟩,
  ⟨#[115, 101, 108, 102]⟩,
  ⟨#[]⟩,
  ⟨#[111, 114, 105, 103, 105, 110]⟩,
  ⟨#[112]⟩,
  ⟨#[99, 101, 108, 108]⟩,
  ⟨#[120]⟩,
  ⟨#[101, 108, 101, 109]⟩,
  ⟨#[107]⟩,
  ⟨#[108, 111, 97, 100]⟩,
  ⟨#[]⟩,
  ⟨#[115, 116, 111, 114, 101]⟩,
  ⟨#[]⟩,
  ⟨#[110, 101, 101, 100]⟩,
  ⟨#[]⟩,
  ⟨#[112, 97, 116, 116, 101, 114, 110]⟩,
  ⟨#[100]⟩,
  ⟨#[118, 105, 114, 116, 117, 97, 108]⟩,
  ⟨#[118]⟩,
  ⟨#[112, 97, 116, 111, 102]⟩,
  ⟨#[]⟩,
  ⟨#[103, 111, 116]⟩,
  ⟨#[]⟩,
  ⟨#[113, 117, 97, 108]⟩,
  ⟨#[]⟩,
  ⟨#[115, 117, 98]⟩,
  ⟨#[]⟩,
  ⟨#[110, 101, 119]⟩,
  ⟨#[104]⟩,
  ⟨#[114, 101, 112]⟩,
  ⟨#[122]⟩,
  ⟨#[114, 101, 115, 105, 122, 101]⟩,
  ⟨#[122]⟩,
  ⟨#[115, 105, 122, 101]⟩,
  ⟨#[]⟩,
  ⟨#[101, 110, 116, 101, 114]⟩,
  ⟨#[107]⟩,
  ⟨#[116, 97, 107, 101]⟩,
  ⟨#[]⟩,
  ⟨#[100, 111]⟩,
  ⟨#[]⟩,
  ⟨#[101, 120, 105, 116]⟩,
  ⟨#[]⟩,
  ⟨#[97, 116, 116, 97, 99, 104]⟩,
  ⟨#[]⟩,
  ⟨#[105, 110, 110, 101, 114]⟩,
  ⟨#[]⟩,
  ⟨#[114, 101, 116, 117, 114, 110]⟩,
  ⟨#[]⟩,
  ⟨#[115, 117, 115, 112, 101, 110, 100]⟩,
  ⟨#[]⟩,
  ⟨#[102, 111, 114, 107]⟩,
  ⟨#[]⟩,
  ⟨#[112, 97, 117, 115, 101]⟩,
  ⟨#[]⟩,
  ⟨#[119, 97, 105, 116]⟩,
  ⟨#[]⟩,
  ⟨#[115, 105, 103, 110, 97, 108]⟩,
  ⟨#[]⟩,
  ⟨#[106, 117, 109, 112]⟩,
  ⟨#[97]⟩,
  ⟨#[106, 117, 109, 112, 102, 97, 108, 115, 101]⟩,
  ⟨#[97]⟩,
  ⟨#[108, 97, 98, 101, 108]⟩,
  ⟨#[108]⟩,
  ⟨#[101, 110, 100]⟩,
  ⟨#[]⟩,
  ⟨#[108, 101, 97, 118, 101]⟩,
  ⟨#[108]⟩,
  ⟨#[114, 101, 115, 116, 97, 114, 116]⟩,
  ⟨#[108]⟩,
  ⟨#[111, 110, 101]⟩,
  ⟨#[117]⟩,
  ⟨#[116, 119, 111]⟩,
  ⟨#[119]⟩,
  ⟨#[99, 111, 110, 118, 101, 114, 116]⟩,
  ⟨#[116]⟩,
  ⟨#[112, 117, 116]⟩,
  ⟨#[]⟩,
  ⟨#[103, 101, 116]⟩,
  ⟨#[]⟩,
  ⟨#[109, 97, 114, 107]⟩,
  ⟨#[109]⟩,
  ⟨#[116, 114, 97, 112]⟩,
  ⟨#[101]⟩,
  ⟨#[114, 111, 111, 116]⟩,
  ⟨#[]⟩]
def isOp (n : Int) : Bool := decide (1 ≤ n ∧ n ≤ 55)
def rnm (n : Int) : ByteArray := if isOp n then nmL.getD (2 * n - 2).toNat ⟨#[]⟩ else ⟨#[]⟩
def rkn (n : Int) : ByteArray := if isOp n then nmL.getD (2 * n - 1).toNat ⟨#[]⟩ else ⟨#[]⟩
def ropL (s : ByteArray) : List Nat → Int
  | [] => 0
  | k :: r => if rnm k = s then k else ropL s r
def rop (s : ByteArray) : Int := ropL s (List.range' 1 55)
def Ck.some : Ck → Bool
  | .none => false
  | _ => true
def opCount (o : Op1) : Int := if o.b.some then 2 else if o.a.some then 1 else 0
theorem nm_table : (opT.all fun o => isOp o.key && decide (rnm o.key = o.name) && decide (((rkn o.key).size : Nat) = opCount o) && !o.name.toList.isEmpty) = true := by decide +kernel
theorem nm_all : ((List.range' 1 55).all fun k => opT.any fun o => decide (o.key = k)) = true := by decide +kernel
theorem opFind_some {n : Int} {o : Op1} (h : opFind n = some o) : o.key = n ∧ isOp n = true ∧ rnm n = o.name ∧ ((rkn n).size : Int) = opCount o := by
  have hk : o.key = n := by simpa [opFind] using List.find?_some h
  have hm := List.mem_of_find?_eq_some h
  have ht := List.all_eq_true.1 nm_table o hm
  simp only [Bool.and_eq_true, decide_eq_true_eq] at ht
  rw [hk] at ht
  exact ⟨hk, ht.1.1.1, ht.1.1.2, ht.1.2⟩
theorem opFind_none {n : Int} (h : opFind n = none) : isOp n = false := by
  cases hn : isOp n with
  | false => rfl
  | true =>
    exfalso
    unfold isOp at hn
    simp only [decide_eq_true_eq] at hn
    have hk : n.toNat ∈ List.range' 1 55 := by rw [List.mem_range'_1]; omega
    have := List.all_eq_true.1 nm_all _ hk
    obtain ⟨o, ho, hok⟩ := List.any_eq_true.1 this
    simp only [decide_eq_true_eq] at hok
    have := List.find?_eq_none.1 h o ho
    simp only [decide_eq_true_eq] at this
    omega
theorem rop_spec (s : ByteArray) : ∀ l : List Nat, (ropL s l = 0 ∧ ∀ k ∈ l, k ≠ 0 → rnm k ≠ s) ∨ ∃ k ∈ l, ropL s l = (k : Int) ∧ rnm k = s
  | [] => .inl ⟨rfl, fun _ h => by cases h⟩
  | k :: r => by
    unfold ropL
    by_cases e : rnm k = s
    · rw [if_pos e]; exact .inr ⟨k, by simp, rfl, e⟩
    · rw [if_neg e]
      rcases rop_spec s r with ⟨h1, h2⟩ | ⟨j, hj, h1, h2⟩
      · refine .inl ⟨h1, fun j hj => ?_⟩
        rcases List.mem_cons.1 hj with rfl | hj
        · exact fun _ => e
        · exact h2 j hj
      · exact .inr ⟨j, by simp [hj], h1, h2⟩
theorem rnm_inj {m n : Int} (hm : isOp m = true) (hn : isOp n = true) (h : rnm m = rnm n) : m = n := by
  cases hf : opFind m with
  | none => rw [opFind_none hf] at hm; cases hm
  | some o =>
    cases hg : opFind n with
    | none => rw [opFind_none hg] at hn; cases hn
    | some q =>
      obtain ⟨a1, -, a3, -⟩ := opFind_some hf
      obtain ⟨b1, -, b3, -⟩ := opFind_some hg
      have := opT_name_inj (List.mem_of_find?_eq_some hf) (List.mem_of_find?_eq_some hg) (by rw [← a3, ← b3, h])
      rw [← a1, ← b1, this]
theorem rop_of_op {o : Op1} (ho : o ∈ opT) : rop o.name = o.key := by
  have hf : opFind o.key = some o := find_key opT_keys ho
  obtain ⟨-, h1, h2, -⟩ := opFind_some hf
  have hr := rop_spec o.name (List.range' 1 55)
  have hk : o.key.toNat ∈ List.range' 1 55 := by
    unfold isOp at h1; simp only [decide_eq_true_eq] at h1
    rw [List.mem_range'_1]; omega
  have hnn : ((o.key.toNat : Nat) : Int) = o.key := by unfold isOp at h1; simp only [decide_eq_true_eq] at h1; omega
  rcases hr with ⟨h3, h4⟩ | ⟨k, hk2, h3, h4⟩
  · exact absurd (by rw [hnn]; exact h2) (h4 _ hk (by unfold isOp at h1; simp only [decide_eq_true_eq] at h1; omega))
  · show ropL _ _ = _
    rw [h3]
    have : isOp k = true := by rw [List.mem_range'_1] at hk2; unfold isOp; simp only [decide_eq_true_eq]; omega
    exact rnm_inj this h1 (by rw [h4, h2])
theorem rop_none {s : ByteArray} (h : ∀ o ∈ opT, o.name ≠ s) : rop s = 0 := by
  rcases rop_spec s (List.range' 1 55) with ⟨h3, -⟩ | ⟨k, hk, h3, h4⟩
  · exact h3
  · exfalso
    have hi : isOp k = true := by rw [List.mem_range'_1] at hk; unfold isOp; simp only [decide_eq_true_eq]; omega
    cases hf : opFind k with
    | none => rw [opFind_none hf] at hi; cases hi
    | some o =>
      obtain ⟨-, -, a3, -⟩ := opFind_some hf
      exact h o (List.mem_of_find?_eq_some hf) (by rw [← a3, h4])

/-! ### The reference -/
theorem isop_any {w : World} (n : Int) : Calls Tryz.prog 32 #[.int .i64 n] w fun e w' => e = .returned (.bool (isOp n)) ∧ w' = w := by
  have e : isOp n = (decide (1 ≤ n) && decide (n ≤ 55)) := by unfold isOp; by_cases h1 : 1 ≤ n <;> by_cases h2 : n ≤ 55 <;> simp [h1, h2]
  rw [e]
  go_enter Tryz.func32, Tryz.ntmps32
  by_cases h1 : 1 ≤ n
  · by_cases h2 : n ≤ 55
    · go_wp2_with fail
      go_ret
      simp [h1, h2]
    · go_wp2_with fail
      go_ret
      simp [h1, h2]
  · go_wp2_with fail
    go_ret
    simp [h1]
    intro h; omega
theorem encS_map : ∀ l : List ByteArray, l.flatMap encS = l.map Value.string
  | [] => rfl
  | x :: r => by rw [List.flatMap_cons, encS_map r]; rfl
theorem nmL_len : nmL.length = 110 := by decide +kernel
theorem info_strS : (Tryz.prog.info? 9).map (fun i => (i.zero, i.size, i.bytes)) = some (some (.string ⟨#[]⟩), 1, 16) := by kernel_rfl
theorem parts_strs (a : Act) (parts : Array (Nat × Operand)) (zs : List ByteArray) (hparts : parts.toList = (zs.zipIdx 0).map fun x => (x.2, Operand.const (Value.string x.1))) :
    (parts.map fun (i, x) => (i, a.eval x)).toList = ((zs.map Value.string).zipIdx 0).map fun x => (x.2, x.1) := by
  rw [Array.toList_map, hparts, List.zipIdx_map, List.map_map, List.map_map]
  rfl
set_option maxRecDepth 100000 in
set_option maxHeartbeats 2000000 in
theorem names_any {w : World} : Calls Tryz.prog 87 #[] w fun e w' => ∃ v, e = .returned v ∧ RdL encS w' v nmL ∧ Ex w w' := by
  obtain ⟨n, hn⟩ : ∃ n, w.heap.size = n := ⟨_, rfl⟩
  obtain ⟨W1, hW1⟩ : ∃ W1, w.alloc (.cells (nmL.map Value.string).toArray 9) = W1 := ⟨_, rfl⟩
  have hR : RdL encS W1 (.slice (some ⟨n, 0, none⟩) 110 110) nmL := by
    have h1 : RdL encS W1 (.slice (some ⟨n, 0, none⟩) nmL.length 110) nmL := Blk.rd (l := nmL) (c := 110) (t := 9) (by rw [encS_map, ← hW1, ← hn]; exact Blk.new w _ _) (by rw [nmL_len]; exact Nat.le_refl _)
    rw [nmL_len] at h1; exact h1
  have hx : Ex w W1 := by rw [← hW1]; exact (Keeps.refl _ w).alloc _
  have HR := Lib.hid hR; have HX := Lib.hid hx; have HW1 := Lib.hid hW1; have Hn := Lib.hid hn
  clear hR hx hW1 hn
  go_enter Tryz.func87, Tryz.ntmps87
  go_wp2_with fail
  obtain ⟨i0, hi, hz0, hz1, hz2⟩ := info_split info_strS
  refine wp_buildSlice 24 9 110 _ rfl (nmL.map Value.string).toArray i0 _ Tryz.underlying24 hi hz0 (by rw [hz1]; decide) (by rw [hz1]; decide) ?_ ?_
  · rw [parts_strs _ _ nmL (by kernel_rfl), hz1]
    exact Great.fill_flat _ _ (fun v hv => by obtain ⟨n, _, rfl⟩ := List.mem_map.1 hv; rfl) (by rw [List.length_map, nmL_len]; simp)
  · rw [Hn.out, HW1.out]
    go_wp2_with fail
    go_ret
    exact ⟨_, rfl, HR.out, HX.out⟩
end Go.Proofs.YtlaepkmnbbgbcaaGreatDoor
/- Name, Kinds, Op of the reference; Name, Operands, Op of the program. -/
namespace Go.Proofs.YtlaepkmnbbgbcaaGreatDoor
open Go.RowKit Go.Instr Go.Shelf
set_option linter.unusedVariables false
set_option linter.unusedSimpArgs false
attribute [local go_sem] Oper.semAt_some

theorem isOp_of {n : Int} (h : isOp n = true) : 1 ≤ n ∧ n ≤ 55 := by unfold isOp at h; simpa using h
theorem nm_get {w : World} {ad : Addr} (h : RdL encS w (.slice (some ad) 110 110) nmL) {j : Nat} (hj : j < 110) : w.cell? (ad.add j) = some (.string (nmL.getD j ⟨#[]⟩)) := by
  have hx : nmL[j]? = some (nmL.getD j ⟨#[]⟩) := by
    rw [List.getD_eq_getElem?_getD, List.getElem?_eq_getElem (by rw [nmL_len]; exact hj)]; rfl
  have := h.at encS_len hx 0 (by omega)
  rw [Addr.add_zero', Nat.mul_one] at this
  exact this
theorem names_form {w : World} {v : Value} (h : RdL encS w v nmL) : ∃ ad c, v = .slice (some ad) 110 c := by
  obtain ⟨a, c, rfl, -, h0, -⟩ := h
  cases a with
  | none => have := h0 rfl; exact absurd (congrArg List.length this) (by rw [nmL_len]; decide)
  | some ad => exact ⟨ad, c, by rw [nmL_len]⟩
set_option maxRecDepth 100000 in
theorem rname_any {w : World} (n : Int) : Calls Tryz.prog 33 #[.int .i64 n] w fun e w' => e = .returned (.string (rnm n)) ∧ Ex w w' := by
  cases hi : isOp n with
  | false =>
    have hr : rnm n = ⟨#[]⟩ := by unfold rnm; rw [hi]; rfl
    rw [hr]
    go_enter Tryz.func33, Tryz.ntmps33
    go_wp2_with (go_at_call 32; refine (isop_any n).mono ?_; rintro e w1 ⟨rfl, rfl⟩; rw [hi])
    go_ret
    exact ⟨rfl, Keeps.refl _ _⟩
  | true =>
    obtain ⟨h1, h2⟩ := isOp_of hi
    have hr : rnm n = nmL.getD (2 * n - 2).toNat ⟨#[]⟩ := by unfold rnm; rw [hi]; rfl
    rw [hr]
    obtain ⟨j, hj⟩ : ∃ j : Nat, n = (j : Int) + 1 := ⟨(n - 1).toNat, by omega⟩
    subst hj
    have hj2 : (2 * ((j : Int) + 1) - 2).toNat = 2 * j := by omega
    rw [hj2]
    have hjl : 2 * j < 110 := by omega
    have q1 : IntKind.i64.wrap (2 * ((j : Int) + 1)) = 2 * (j : Int) + 2 := by simp [IntKind.wrap_i64]; omega
    have q2 : IntKind.i64.wrap (2 * (j : Int) + 2 - 2) = 2 * (j : Int) := by simp [IntKind.wrap_i64]; omega
    have q3 : (2 * (j : Int)) < 110 := by omega
    have q4 : (0 : Int) ≤ 2 * (j : Int) := by omega
    have q5 : (2 * (j : Int)).toNat = 2 * j := by omega
    obtain ⟨s, hs⟩ : ∃ s, nmL.getD (2 * j) ⟨#[]⟩ = s := ⟨_, rfl⟩
    rw [hs]
    have Hs := Lib.hid hs
    have Hi := Lib.hid hi
    have Hjl := Lib.hid hjl
    clear hs hr hj2 hi h1 h2 hjl
    go_enter Tryz.func33, Tryz.ntmps33
    go_wp2_with (go_at_call 32; refine (isop_any _).mono ?_; rintro e w1 ⟨rfl, rfl⟩; rw [Hi.out])
    refine names_any.mono ?_
    rintro e w2 ⟨v, rfl, hr, hx⟩
    obtain ⟨ad, c, rfl⟩ := names_form hr
    have z : w2.cell? (ad.add (2 * j)) = some (.string s) := by
      have hx : nmL[2 * j]? = some (nmL.getD (2 * j) ⟨#[]⟩) := by
        rw [List.getD_eq_getElem?_getD, List.getElem?_eq_getElem (by rw [nmL_len]; exact Hjl.out)]; rfl
      have hr2 := hr
      rw [← nmL_len] at hr2
      have := hr2.at encS_len hx 0 (by omega)
      rw [Addr.add_zero', Nat.mul_one, Hs.out] at this
      exact this
    have HX := Lib.hid hx
    clear hr hx
    go_wp2_with fail
    go_ret
    exact ⟨rfl, HX.out⟩
set_option maxRecDepth 100000 in
theorem rkinds_any {w : World} (n : Int) : Calls Tryz.prog 34 #[.int .i64 n] w fun e w' => e = .returned (.string (rkn n)) ∧ Ex w w' := by
  cases hi : isOp n with
  | false =>
    have hr : rkn n = ⟨#[]⟩ := by unfold rkn; rw [hi]; rfl
    rw [hr]
    go_enter Tryz.func34, Tryz.ntmps34
    go_wp2_with (go_at_call 32; refine (isop_any n).mono ?_; rintro e w1 ⟨rfl, rfl⟩; rw [hi])
    go_ret
    exact ⟨rfl, Keeps.refl _ _⟩
  | true =>
    obtain ⟨h1, h2⟩ := isOp_of hi
    have hr : rkn n = nmL.getD (2 * n - 1).toNat ⟨#[]⟩ := by unfold rkn; rw [hi]; rfl
    rw [hr]
    obtain ⟨j, hj⟩ : ∃ j : Nat, n = (j : Int) + 1 := ⟨(n - 1).toNat, by omega⟩
    subst hj
    have hj2 : (2 * ((j : Int) + 1) - 1).toNat = 2 * j + 1 := by omega
    rw [hj2]
    have hjl : 2 * j + 1 < 110 := by omega
    have q1 : IntKind.i64.wrap (2 * ((j : Int) + 1)) = 2 * (j : Int) + 2 := by simp [IntKind.wrap_i64]; omega
    have q2 : IntKind.i64.wrap (2 * (j : Int) + 2 - 1) = 2 * (j : Int) + 1 := by simp [IntKind.wrap_i64]; omega
    have q3 : (2 * (j : Int)) + 1 < 110 := by omega
    have q6 : IntKind.i64.wrap (2 * (j : Int) + 1) = 2 * (j : Int) + 1 := by simp [IntKind.wrap_i64]; omega
    have q4 : (0 : Int) ≤ 2 * (j : Int) + 1 := by omega
    have q5 : (2 * (j : Int) + 1).toNat = 2 * j + 1 := by omega
    obtain ⟨s, hs⟩ : ∃ s, nmL.getD (2 * j + 1) ⟨#[]⟩ = s := ⟨_, rfl⟩
    rw [hs]
    have Hs := Lib.hid hs
    have Hi := Lib.hid hi
    have Hjl := Lib.hid hjl
    clear hs hr hj2 hi h1 h2 hjl
    go_enter Tryz.func34, Tryz.ntmps34
    go_wp2_with (go_at_call 32; refine (isop_any _).mono ?_; rintro e w1 ⟨rfl, rfl⟩; rw [Hi.out])
    refine names_any.mono ?_
    rintro e w2 ⟨v, rfl, hr, hx⟩
    obtain ⟨ad, c, rfl⟩ := names_form hr
    have z : w2.cell? (ad.add (2 * j + 1)) = some (.string s) := by
      have hx : nmL[2 * j + 1]? = some (nmL.getD (2 * j + 1) ⟨#[]⟩) := by
        rw [List.getD_eq_getElem?_getD, List.getElem?_eq_getElem (by rw [nmL_len]; exact Hjl.out)]; rfl
      have hr2 := hr
      rw [← nmL_len] at hr2
      have := hr2.at encS_len hx 0 (by omega)
      rw [Addr.add_zero', Nat.mul_one, Hs.out] at this
      exact this
    have HX := Lib.hid hx
    clear hr hx
    rw [show ad.add (2 * j + 1) = ⟨ad.block, ad.off + (2 * j + 1), none⟩ from by simp [Addr.add]] at z
    go_wp2_with fail
    go_ret
    exact ⟨rfl, HX.out⟩
theorem toList_ne {a b : ByteArray} (h : ¬ a = b) : (a.toList == b.toList) = false := by
  rw [beq_eq_false_iff_ne]
  exact fun e => h (ByteArray.ext (Array.ext' (by simpa [Go.ByteArray.toList_eq] using e)))
theorem range_cons {k : Nat} (h : k ≤ 55) : List.range' k (56 - k) = k :: List.range' (k + 1) (56 - (k + 1)) := by
  rw [show 56 - k = (56 - (k + 1)) + 1 by omega, List.range'_succ]
set_option maxRecDepth 100000 in
theorem rop_any {w : World} (s : ByteArray) : Calls Tryz.prog 35 #[.string s] w fun e w' => e = .returned (.int .i64 (rop s)) ∧ Ex w w' := by
  have HX0 : Hid (Ex w w) := Lib.hid (Keeps.refl _ _)
  have HR0 : Hid (rop s = ropL s (List.range' 1 (56 - 1))) := Lib.hid rfl
  generalize hR : rop s = R at HR0 ⊢
  clear hR
  go_enter Tryz.func35, Tryz.ntmps35
  go_wp2_with fail
  go_loopw [3] (fun u wr => ∃ k : Nat, 1 ≤ k ∧ k ≤ 56 ∧ u = .int .i64 k ∧ Hid (Ex w wr) ∧ Hid (R = ropL s (List.range' k (56 - k)))) (fun u wr => 57 - (intOf u).toNat)
  case atStart => exact ⟨1, by omega, by omega, rfl, HX0, HR0⟩
  case round =>
    obtain ⟨k, hk1, hk2, rfl, HX, HR⟩ := hrel
    by_cases hlt : k ≤ 55
    case pos =>
      have hi : isOp k = true := by unfold isOp; simp only [decide_eq_true_eq]; omega
      have Hi := Lib.hid hi
      have HR2 := HR.out
      rw [range_cons hlt] at HR2
      unfold ropL at HR2
      obtain ⟨q, hq⟩ : ∃ q, rnm k = q := ⟨_, rfl⟩
      rw [hq] at HR2
      have HN := Lib.hid (rname_any (w := wr) (k : Int))
      rw [hq] at HN
      by_cases he : q = s
      · subst he
        rw [if_pos rfl] at HR2
        have hb : (q.toList == q.toList) = true := by simp
        have HR3 := Lib.hid HR2
        clear HR2 hq hi HR
        go_wp2_with (go_at_call 32; refine (isop_any _).mono ?_; rintro e w1 ⟨rfl, rfl⟩; rw [Hi.out])
        refine HN.out.mono ?_
        rintro e w2 ⟨rfl, hx⟩
        have HX2 := Lib.hid (HX.out.trans hx)
        clear hx HN HX
        go_wp2_with fail
        go_ret
        exact ⟨by rw [HR3.out]; rfl, HX2.out⟩
      · rw [if_neg he] at HR2
        have HR3 := Lib.hid HR2
        have hne : (q.toList == s.toList) = false := toList_ne he
        clear HR2 hq hi HR
        go_wp2_with (go_at_call 32; refine (isop_any _).mono ?_; rintro e w1 ⟨rfl, rfl⟩; rw [Hi.out])
        refine HN.out.mono ?_
        rintro e w2 ⟨rfl, hx⟩
        have HX2 := Lib.hid (HX.out.trans hx)
        clear hx HN HX
        go_wp2_with fail
        refine ⟨⟨k + 1, ?_, ?_, by go_num, HX2, HR3⟩, by show 57 - ((k : Int) + 1).toNat < 57 - ((k : Nat) : Int).toNat; omega⟩ <;> omega
    case neg =>
      have : k = 56 := by omega
      subst this
      have hi : isOp 56 = false := by decide
      have Hi := Lib.hid hi
      have HR3 : Hid (R = 0) := Lib.hid HR.out
      clear hi hlt HR
      go_wp2_with (go_at_call 32; refine (isop_any _).mono ?_; rintro e w1 ⟨rfl, rfl⟩; rw [Hi.out])
      go_ret
      exact ⟨by rw [HR3.out]; rfl, HX.out⟩
end Go.Proofs.YtlaepkmnbbgbcaaGreatDoor
/- Name, Operands, Op of the program. -/
namespace Go.Proofs.YtlaepkmnbbgbcaaGreatDoor
open Go.RowKit Go.Instr Go.Shelf
set_option linter.unusedVariables false
set_option linter.unusedSimpArgs false
attribute [local go_sem] Oper.semAt_some

theorem CkV.form2 {w : World} {v : Value} {k : Ck} (h : CkV w v k) : (k.some = false ∧ v = .nilFunc) ∨ (k.some = true ∧ ∃ f lb, v = .func (.func f) #[] lb) := by
  cases k with
  | none => exact .inl ⟨rfl, h⟩
  | btw lo hi => obtain ⟨b1, b2, e, -⟩ := h; exact .inr ⟨rfl, _, _, e⟩
  | idx f => obtain ⟨b, e, -⟩ := h; exact .inr ⟨rfl, _, _, e⟩
  | int => exact .inr ⟨rfl, _, _, h⟩
  | text => exact .inr ⟨rfl, _, _, h⟩
theorem CkV.stores {w : World} {v : Value} {k : Ck} (h : CkV w v k) : ∀ (a : Addr) (md : Mode) (W : World), (Go.store a v md).run Tryz.prog W = stored Tryz.prog W a v md := by
  intro a md W
  rcases h.form with rfl | ⟨f, lb, rfl⟩
  · exact run_store_nilFunc _ _ _ _
  · exact run_store_func _ _ _ _ _ _ _
def nameE (n : Int) : Int := if isOp n then 0 else 1
set_option maxRecDepth 100000 in
theorem Name_any {w : World} (n : Int) : Calls Tryz.prog 29 #[.int .i64 n] w fun e w' => e = .returned (.tuple #[.string (rnm n), .int .i64 (nameE n)]) ∧ Ex w w' := by
  obtain ⟨N, hN⟩ : ∃ N, rnm n = N := ⟨_, rfl⟩
  obtain ⟨E, hE⟩ : ∃ E, nameE n = E := ⟨_, rfl⟩
  rw [hN, hE]
  have HN := Lib.hid hN; have HE := Lib.hid hE
  clear hN hE
  go_enter Tryz.func29, Tryz.ntmps29
  go_wp2_with (go_at_call 57; refine (operations_any _).mono ?_)
  rintro e w1 ⟨m, rfl, hrd, -, hx⟩
  have hlook := hrd.look n
  have HX := Lib.hid hx
  clear hx hrd
  cases hf : opFind n with
  | none =>
    have hi := opFind_none hf
    have e1 : rnm n = ⟨#[]⟩ := by unfold rnm; rw [hi]; rfl
    have e2 : nameE n = 1 := by unfold nameE; rw [hi]; rfl
    rw [HN.out] at e1; rw [HE.out] at e2
    subst e1; subst e2
    unfold opFind at hf
    rw [hf] at hlook
    clear hf hi
    simp only at hlook
    go_wp2_with fail
    go_ret2
    exact ⟨rfl, HX.out.alloc _⟩
  | some o =>
    obtain ⟨-, hi, e1, -⟩ := opFind_some hf
    have e2 : nameE n = 0 := by unfold nameE; rw [hi]; rfl
    rw [HN.out] at e1; rw [HE.out] at e2
    subst e1; subst e2
    unfold opFind at hf
    rw [hf] at hlook
    clear hf hi
    simp only at hlook
    obtain ⟨va, vb, hl, hva, hvb⟩ := hlook
    have hsa := hva.stores
    have hsb := hvb.stores
    obtain ⟨W2, hW2⟩ : ∃ W2, w1.alloc (.cells #[.string o.name, va, vb] 118) = W2 := ⟨_, rfl⟩
    obtain ⟨b, hb⟩ : ∃ b, w1.heap.size = b := ⟨_, rfl⟩
    have hB : Blk W2 b #[.string o.name, va, vb] 118 := by rw [← hW2, ← hb]; exact Blk.new w1 _ _
    have hX2 : Ex w W2 := by rw [← hW2]; exact HX.out.alloc _
    have z : W2.cell? ⟨b, 0, none⟩ = some (.string o.name) := (hB.cell 0).trans rfl
    have HX2 := Lib.hid hX2
    clear hB hX2 hva hvb
    go_wp2_with fail
    go_ret2
    exact ⟨rfl, HX2.out⟩
set_option maxRecDepth 100000 in
theorem operandsC_any {w : World} {o : Op1} {va vb : Value} (ha : CkV w va o.a) (hb : CkV w vb o.b) :
    Calls Tryz.prog 86 #[.agg #[.string o.name, va, vb]] w fun e w' => e = .returned (.int .i64 (opCount o)) ∧ Ex w w' := by
  have hsa := ha.stores
  have hsb := hb.stores
  obtain ⟨W2, hW2⟩ : ∃ W2, w.alloc (.cells #[.string o.name, va, vb] 118) = W2 := ⟨_, rfl⟩
  obtain ⟨b, hb0⟩ : ∃ b, w.heap.size = b := ⟨_, rfl⟩
  have hB : Blk W2 b #[.string o.name, va, vb] 118 := by rw [← hW2, ← hb0]; exact Blk.new w _ _
  have hX2 : Ex w W2 := by rw [← hW2]; exact (Keeps.refl _ _).alloc _
  have z1 : W2.cell? ⟨b, 1, none⟩ = some va := (hB.cell 1).trans rfl
  have z2 : W2.cell? ⟨b, 2, none⟩ = some vb := (hB.cell 2).trans rfl
  have HX2 := Lib.hid hX2
  have hnn := neq_nil
  have hnf := neq_fn
  rcases hb.form2 with ⟨h1, rfl⟩ | ⟨h1, f, lb, rfl⟩
  · rcases ha.form2 with ⟨h2, rfl⟩ | ⟨h2, f, lb, rfl⟩
    · have e : opCount o = 0 := by unfold opCount; rw [h1, h2]; rfl
      rw [e]
      clear h1 h2 hB hX2 ha hb e
      go_enter Tryz.func86, Tryz.ntmps86
      go_wp2_with fail
      go_ret
      exact ⟨rfl, HX2.out⟩
    · have e : opCount o = 1 := by unfold opCount; rw [h1, h2]; rfl
      rw [e]
      clear h1 h2 hB hX2 ha hb e
      go_enter Tryz.func86, Tryz.ntmps86
      go_wp2_with fail
      go_ret
      exact ⟨rfl, HX2.out⟩
  · have e : opCount o = 2 := by unfold opCount; rw [h1]; rfl
    rw [e]
    clear h1 hB hX2 ha hb e
    go_enter Tryz.func86, Tryz.ntmps86
    go_wp2_with fail
    go_ret
    exact ⟨rfl, HX2.out⟩
set_option maxRecDepth 100000 in
theorem Operands_any {w : World} (n : Int) : Calls Tryz.prog 30 #[.int .i64 n] w fun e w' => e = .returned (.tuple #[.int .i64 ((rkn n).size : Nat), .int .i64 (nameE n)]) ∧ Ex w w' := by
  obtain ⟨N, hN⟩ : ∃ N : Int, (((rkn n).size : Nat) : Int) = N := ⟨_, rfl⟩
  obtain ⟨E, hE⟩ : ∃ E, nameE n = E := ⟨_, rfl⟩
  rw [hN, hE]
  have HN := Lib.hid hN; have HE := Lib.hid hE
  clear hN hE
  go_enter Tryz.func30, Tryz.ntmps30
  go_wp2_with (go_at_call 57; refine (operations_any _).mono ?_)
  rintro e w1 ⟨m, rfl, hrd, -, hx⟩
  have hlook := hrd.look n
  have HX := Lib.hid hx
  clear hx hrd
  cases hf : opFind n with
  | none =>
    have hi := opFind_none hf
    have e1 : (((rkn n).size : Nat) : Int) = 0 := by unfold rkn; rw [hi]; rfl
    have e2 : nameE n = 1 := by unfold nameE; rw [hi]; rfl
    rw [HN.out] at e1; rw [HE.out] at e2
    subst e1; subst e2
    unfold opFind at hf
    rw [hf] at hlook
    clear hf hi
    simp only at hlook
    go_wp2_with fail
    go_ret2
    exact ⟨rfl, HX.out.alloc _⟩
  | some o =>
    obtain ⟨-, hi, -, e1⟩ := opFind_some hf
    have e2 : nameE n = 0 := by unfold nameE; rw [hi]; rfl
    rw [HN.out] at e1; rw [HE.out] at e2
    subst e1; subst e2
    unfold opFind at hf
    rw [hf] at hlook
    clear hf hi
    simp only at hlook
    obtain ⟨va, vb, hl, hva, hvb⟩ := hlook
    have hsa := hva.stores
    have hsb := hvb.stores
    obtain ⟨W2, hW2⟩ : ∃ W2, w1.alloc (.cells #[.string o.name, va, vb] 118) = W2 := ⟨_, rfl⟩
    obtain ⟨b, hb⟩ : ∃ b, w1.heap.size = b := ⟨_, rfl⟩
    have hB : Blk W2 b #[.string o.name, va, vb] 118 := by rw [← hW2, ← hb]; exact Blk.new w1 _ _
    have hX12 : Ex w1 W2 := by rw [← hW2]; exact (Keeps.refl _ _).alloc _
    have z : W2.cell? ⟨b, 0, none⟩ = some (.string o.name) := (hB.cell 0).trans rfl
    have z1 : W2.cell? ⟨b, 1, none⟩ = some va := (hB.cell 1).trans rfl
    have z2 : W2.cell? ⟨b, 2, none⟩ = some vb := (hB.cell 2).trans rfl
    have HX2 := Lib.hid (HX.out.trans hX12)
    have HO := Lib.hid (operandsC_any (hva.ext hX12) (hvb.ext hX12))
    clear hB hX12 hva hvb
    go_wp2_with fail
    refine HO.out.mono ?_
    rintro e w3 ⟨rfl, hx3⟩
    have HX3 := Lib.hid (HX2.out.trans hx3)
    clear hx3
    go_wp2_with fail
    go_ret2
    exact ⟨rfl, HX3.out⟩
def opE (s : ByteArray) : Int := if rop s = 0 then 1 else 0
theorem op_key_ne : (opT.all fun o => decide (o.key ≠ 0)) = true := by decide +kernel
set_option maxRecDepth 100000 in
set_option maxHeartbeats 2000000 in
theorem Op_any {w : World} (s : ByteArray) : Calls Tryz.prog 31 #[.string s] w fun e w' => e = .returned (.tuple #[.int .i64 (rop s), .int .i64 (opE s)]) ∧ Ex w w' := by
  obtain ⟨R, hR⟩ : ∃ R, rop s = R := ⟨_, rfl⟩
  obtain ⟨E, hE⟩ : ∃ E, opE s = E := ⟨_, rfl⟩
  rw [hR, hE]
  have HR := Lib.hid hR; have HE := Lib.hid hE
  clear hR hE
  go_enter Tryz.func31, Tryz.ntmps31
  go_wp2_with (go_at_call 57; refine (operations_any _).mono ?_)
  rintro e W4 ⟨ma, rfl, hrd, hle, hx4⟩
  obtain ⟨es, ck, hes, hrng⟩ := Rng.begin hrd
  have hrr := run_range_map (P := Tryz.prog) W4 111 3 118 ma es ck Tryz.underlying111 hes
  obtain ⟨r, hr⟩ : ∃ r, W4.heap.size = r := ⟨_, rfl⟩
  obtain ⟨W5, hW5⟩ : ∃ W5, W4.alloc (.mapIter (some ma) ck #[] ck) = W5 := ⟨_, rfl⟩
  rw [hr, hW5] at hrng
  rw [hr, hW5] at hrr
  have hx5 : Ex W4 W5 := by rw [← hW5]; exact (Keeps.refl _ W4).alloc _
  have hrw : w.heap.size ≤ r := by rw [← hr]; exact hx4.size
  have hmr : ma < r := by rw [← hr]; exact (Array.getElem?_eq_some_iff.1 hes).1
  have HRng := Lib.hid hrng; have HX5 := Lib.hid (hx4.trans hx5)
  clear hrd hle hx4 hes hrng hx5 hr hW5
  go_wp2_with fail
  clear hrr
  go_loopw [8] (fun v wr => ∃ (seen : Array Nat), Hid (Rng wr ma r opT es ck seen) ∧ Hid (Keeps (fun k => k = r) W5 wr) ∧ Hid (∀ e ∈ es, seen.contains e.born = true → ∀ o ∈ opT, e.key = .int .i64 o.key → o.name ≠ s)) (fun v wr => wr.rangeLeft ma r)
  case atStart => exact ⟨#[], HRng, Lib.hid (Keeps.refl _ _), Lib.hid (fun e _ h => by simp at h)⟩
  case round =>
    obtain ⟨seen, HRr, HKr, HQ⟩ := hrel
    go_wp2_with (at_next; refine wpList_next_op rfl _ rfl rfl HRr.out ?done ?more)
    case more =>
      intro e q va vb w1 he _ heo hev hva hvb hk1 hs1 hr1 hlt hen
      have hsa := hva.stores
      have hsb := hvb.stores
      obtain ⟨W6, hW6⟩ : ∃ W6, w1.alloc (.cells #[.string q.name, va, vb] 118) = W6 := ⟨_, rfl⟩
      obtain ⟨b6, hb6⟩ : ∃ b, w1.heap.size = b := ⟨_, rfl⟩
      have hx6 : Ex w1 W6 := by rw [← hW6]; exact (Keeps.refl _ w1).alloc _
      have hB6 : Blk W6 b6 #[.string q.name, va, vb] 118 := by rw [← hW6, ← hb6]; exact Blk.new w1 _ _
      have z : W6.cell? ⟨b6, 0, none⟩ = some (.string q.name) := (hB6.cell 0).trans rfl
      have hk6 : Keeps (fun k => k = r) W5 W6 := (HKr.out.trans hk1).trans (hx6.mono fun _ _ h => h.elim)
      have hr6 : Rng W6 ma r opT es ck (seen.push e.born) := hr1.keep hx6 id id (fun _ _ _ _ => id)
      have hleft : W6.rangeLeft ma r < wr.rangeLeft ma r := by rw [hr6.left, HRr.out.left]; exact hlt
      have hxw : Ex w W6 := HX5.out.trans' hk6 (fun i hi e => by omega)
      have hqm := heo.1
      have hek := heo.2.1
      have HK6 := Lib.hid hk6; have HR6 := Lib.hid hr6; have HLeft := Lib.hid hleft; have HXw := Lib.hid hxw; have Hqm := Lib.hid hqm; have Hek := Lib.hid hek; have He := Lib.hid he; have HIE := Lib.hid hr1.ok
      clear hx6 hB6 hk6 hr6 hleft hxw hqm hek hva hvb hev heo hk1 hs1 hr1 hlt he
      by_cases hn : q.name = s
      · have h1 : R = q.key := by rw [← HR.out, ← hn]; exact rop_of_op Hqm.out
        have h2 : E = 0 := by
          have hne := List.all_eq_true.1 op_key_ne q Hqm.out
          simp only [decide_eq_true_eq] at hne
          rw [← HE.out]; unfold opE
          rw [if_neg (by rw [HR.out, h1]; exact hne)]
        subst h1; subst h2
        have hb : (q.name.toList == s.toList) = true := by rw [hn]; simp
        clear hn
        go_wp2_with fail
        go_ret2
        exact ⟨rfl, HXw.out⟩
      · have hb := toList_ne hn
        have hQ2 : ∀ e' ∈ es, (seen.push e.born).contains e'.born = true → ∀ o ∈ opT, e'.key = .int .i64 o.key → o.name ≠ s := by
          intro x hx hs o ho hxk
          rw [contains_push] at hs
          rcases Bool.or_eq_true _ _ ▸ hs with hs | hs
          · exact HQ.out x hx hs o ho hxk
          · have hbn : x.born = e.born := by simpa using hs
            have hxe : x = e := inj_on_of_nodup_map HIE.out.borns (by simpa using hx) (by simpa using He.out) hbn
            rw [hxe, Hek.out] at hxk
            injection hxk with _ hxk
            rw [← opT_key_inj Hqm.out ho hxk]; exact hn
        have HQ2 := Lib.hid hQ2
        clear hn hQ2
        go_wp2_with fail
        exact ⟨⟨_, HR6, HK6, HQ2⟩, HLeft.out⟩
    case done =>
      intro hseen
      have hnone : ∀ o ∈ opT, o.name ≠ s := by
        intro o ho
        obtain ⟨e, he, hek⟩ := HRr.out.all o ho
        exact HQ.out e he (by have := hseen e he; simpa using this) o ho hek
      have h1 : R = 0 := by rw [← HR.out]; exact rop_none hnone
      have h2 : E = 1 := by rw [← HE.out]; unfold opE; rw [if_pos (by rw [HR.out]; exact h1)]
      subst h1; subst h2
      have HXw : Hid (Ex w wr) := Lib.hid (HX5.out.trans' HKr.out (fun i hi e => by omega))
      clear hseen hnone
      go_wp2_with fail
      go_ret2
      exact ⟨rfl, HXw.out⟩
end Go.Proofs.YtlaepkmnbbgbcaaGreatDoor
/- CodeNames returns true. -/
namespace Go.Proofs.YtlaepkmnbbgbcaaGreatDoor
open Go.RowKit Go.Instr Go.Shelf
set_option linter.unusedVariables false
set_option linter.unusedSimpArgs false
attribute [local go_sem] Oper.semAt_some

theorem rop_range (s : ByteArray) : rop s = 0 ∨ 0 < rop s := by
  rcases rop_spec s (List.range' 1 55) with ⟨h, -⟩ | ⟨k, hk, h, -⟩
  · exact .inl h
  · right
    show 0 < ropL s (List.range' 1 55)
    rw [h]
    rw [List.mem_range'_1] at hk; omega
set_option maxRecDepth 100000 in
set_option maxHeartbeats 4000000 in
theorem CodeNames_any {w : World} (hm : Mx w) (ht : Tab w) (n : Int) (s : ByteArray) : Calls Tryz.prog 7 #[.int .i64 n, .string s] w fun e w' => e = .returned (.bool true) ∧ Ex w w' := by
  have HN := fun w => Lib.hid (Name_any (w := w) n)
  have HO := fun w => Lib.hid (Operands_any (w := w) n)
  have HP := fun w => Lib.hid (Op_any (w := w) s)
  have HRN := fun w => Lib.hid (rname_any (w := w) n)
  have HRK := fun w => Lib.hid (rkinds_any (w := w) n)
  have HRP := fun w => Lib.hid (rop_any (w := w) s)
  have HI := fun w => Lib.hid (isop_any (w := w) n)
  have hE1 : isOp n = true → nameE n = 0 := fun h => by unfold nameE; rw [h]; rfl
  have hE2 : isOp n = false → nameE n = 1 ∧ rnm n = ⟨#[]⟩ ∧ (((rkn n).size : Nat) : Int) = 0 := fun h => ⟨by unfold nameE; rw [h]; rfl, by unfold rnm; rw [h]; rfl, by unfold rkn; rw [h]; rfl⟩
  have hP : (rop s = 0 ∧ opE s = 1) ∨ (0 < rop s ∧ opE s = 0) := by
    rcases rop_range s with h | h
    · exact .inl ⟨h, by unfold opE; rw [if_pos h]⟩
    · exact .inr ⟨h, by unfold opE; rw [if_neg (by omega)]⟩
  generalize rop s = R at HP HRP hP
  generalize opE s = E at HP hP
  generalize hK : (((rkn n).size : Nat) : Int) = K at HO hE2
  generalize hkn : rkn n = kn at HRK hK
  generalize rnm n = nm at HN HRN hE2
  generalize nameE n = F at HN HO hE1 hE2
  generalize isOp n = b at HI hE1 hE2
  clear hkn
  have Hm := Lib.hid hm; have Ht := Lib.hid ht; have HK := Lib.hid hK
  clear hm ht hK
  go_enter Tryz.func7, Tryz.ntmps7
  go_wp2_with fail
  refine (HN _).out.mono ?_
  rintro e w1 ⟨rfl, hx1⟩
  have HX1 := Lib.hid hx1
  clear hx1
  go_wp2_with fail
  refine (HO _).out.mono ?_
  rintro e w2 ⟨rfl, hx2⟩
  have HX2 := Lib.hid (HX1.out.trans hx2)
  clear hx2
  go_wp2_with fail
  refine (HP _).out.mono ?_
  rintro e w3 ⟨rfl, hx3⟩
  have HX3 := Lib.hid (HX2.out.trans hx3)
  clear hx3
  go_wp2_with fail
  refine (HI _).out.mono ?_
  rintro e w4 ⟨rfl, rfl⟩
  cases b with
  | false =>
    obtain ⟨rfl, rfl, rfl⟩ := hE2 rfl
    clear hE1 hE2
    go_wp2_with fail
    refine (HRP _).out.mono ?_
    rintro e w5 ⟨rfl, hx5⟩
    have HX5 := Lib.hid (HX3.out.trans hx5)
    have HS := Lib.hid (sanity_any (Hm.out.ext HX5.out) (Ht.out.ext HX5.out))
    clear hx5
    rcases hP with ⟨rfl, rfl⟩ | ⟨hpos, rfl⟩
    · go_wp2_with fail
      refine HS.out.mono ?_
      rintro e w6 ⟨rfl, hx6⟩
      have HX6 := Lib.hid (HX5.out.trans hx6)
      clear hx6
      go_wp2_with fail
      go_ret
      exact ⟨rfl, HX6.out⟩
    · go_wp2_with fail
      refine HS.out.mono ?_
      rintro e w6 ⟨rfl, hx6⟩
      have HX6 := Lib.hid (HX5.out.trans hx6)
      clear hx6
      go_wp2_with fail
      go_ret
      exact ⟨rfl, HX6.out⟩
  | true =>
    obtain rfl := hE1 rfl
    have hb : (nm.toList == nm.toList) = true := by simp
    clear hE1 hE2
    go_wp2_with fail
    refine (HRN _).out.mono ?_
    rintro e w5 ⟨rfl, hx5⟩
    have HX5 := Lib.hid (HX3.out.trans hx5)
    clear hx5
    go_wp2_with fail
    refine (HRK _).out.mono ?_
    rintro e w6 ⟨rfl, hx6⟩
    have HX6 := Lib.hid (HX5.out.trans hx6)
    have hK2 := HK.out
    clear hx6
    go_wp2_with fail
    refine (HRP _).out.mono ?_
    rintro e w7 ⟨rfl, hx7⟩
    have HX7 := Lib.hid (HX6.out.trans hx7)
    have HS := Lib.hid (sanity_any (Hm.out.ext HX7.out) (Ht.out.ext HX7.out))
    clear hx7
    rcases hP with ⟨rfl, rfl⟩ | ⟨hpos, rfl⟩
    · go_wp2_with fail
      refine HS.out.mono ?_
      rintro e w8 ⟨rfl, hx8⟩
      have HX8 := Lib.hid (HX7.out.trans hx8)
      clear hx8
      go_wp2_with fail
      go_ret
      exact ⟨rfl, HX8.out⟩
    · go_wp2_with fail
      refine HS.out.mono ?_
      rintro e w8 ⟨rfl, hx8⟩
      have HX8 := Lib.hid (HX7.out.trans hx8)
      clear hx8
      go_wp2_with fail
      go_ret
      exact ⟨rfl, HX8.out⟩
end Go.Proofs.YtlaepkmnbbgbcaaGreatDoor
