/- The checks of operands, called: what a function value that checks says. fits: the error of an instruction. fits: the error of an instruction. The closures of Check; real.Valid. -/
import Derived.Test.YtlaepkmnbbgbcaaGreatDoorGB6
import Derived.Test.YtlaepkmnbbgbcaaGreatDoorGB4
import Derived.Test.YtlaepkmnbbgbcaaGreatDoorGB2
import Derived.Laws.EntriesVeiled
import Derived.Test.YtlaepkmnbbgbcaaGreatDoorGB3
/- The checks of operands, called: what a function value that checks says. -/
namespace Go.Proofs.YtlaepkmnbbgbcaaGreatDoor
open Go.RowKit Go.Instr
set_option linter.unusedVariables false
set_option linter.unusedSimpArgs false
attribute [local go_sem] Oper.semAt_some

theorem plain_ascii {s : ByteArray} (h : plainB s = true) : ∀ b ∈ s.data.toList, b.toNat < 128 := by
  unfold plainB at h
  simp only [Bool.and_eq_true, List.all_eq_true, decide_eq_true_eq] at h
  intro b hb
  have := (h.2 b hb).2
  omega
theorem RdL.str_at {w : World} {ad : Addr} {n cp : Nat} {l : List ByteArray} (h : RdL encS w (.slice (some ad) n cp) l) {k : Nat} (hk : k < l.length) : w.cell? (ad.add k) = some (.string (l.getD k ⟨#[]⟩)) := by
  have := h.at encS_len (List.getElem?_eq_getElem hk) 0 (by omega)
  rw [Addr.add_zero', Nat.mul_one] at this
  rw [this, List.getD_eq_getElem?_getD, List.getElem?_eq_getElem hk]; rfl
set_option maxRecDepth 100000 in
set_option maxHeartbeats 1000000 in
theorem integer_any {w : World} {dv lv tv rv iv : Value} {c : Co} {xs : List DeV} (h : RdCo w dv lv tv rv iv c xs) (hb : Big c) (hp : ∀ s ∈ c.texts, plainB s = true) (n : Int) :
    Calls Tryz.prog 105 #[codeV dv lv tv rv iv, .int .i64 n] w fun e w' => e = .returned (.bool (ckB c .int n)) ∧ Ex w w' := by
  obtain ⟨da, dc, rfl, -⟩ := id h.ds
  obtain ⟨la, lc, rfl, -⟩ := id h.ls
  obtain ⟨ta, tc, rfl, -, ht1, -⟩ := id h.ts
  obtain ⟨ra, rc, rfl, -⟩ := id h.rs
  obtain ⟨ia, ic, rfl, -⟩ := id h.is
  obtain ⟨W1, hW1⟩ : ∃ W1, w.alloc (.cells #[.slice da xs.length dc, .slice la c.labels.length lc, .slice ta c.texts.length tc, .slice ra c.reals.length rc, .slice ia c.instrs.length ic] 28) = W1 := ⟨_, rfl⟩
  obtain ⟨b0, hb0⟩ : ∃ b0, w.heap.size = b0 := ⟨_, rfl⟩
  have hX1 : Ex w W1 := by rw [← hW1]; exact (Keeps.refl _ w).alloc _
  have hB0 : Blk W1 b0 #[.slice da xs.length dc, .slice la c.labels.length lc, .slice ta c.texts.length tc, .slice ra c.reals.length rc, .slice ia c.instrs.length ic] 28 := by rw [← hW1, ← hb0]; exact Blk.new w _ _
  have x2 : W1.cell? ⟨b0, 2, none⟩ = some (.slice ta c.texts.length tc) := (hB0.cell 2).trans rfl
  have hT := h.ts.ext hX1
  have htl := hb.t
  have hts := hb.s
  have HW1 := Lib.hid hW1; have Hb0 := Lib.hid hb0; have HX1 := Lib.hid hX1
  clear hW1 hb0 hX1 hB0 h hb
  generalize hB : ckB c .int n = B
  unfold codeV
  by_cases k1 : 0 ≤ n
  case neg =>
    have e : B = false := by
      rw [← hB]
      show (decide (0 ≤ n ∧ n < (c.texts.length : Nat)) && intB (c.texts.getD n.toNat ⟨#[]⟩)) = false
      rw [decide_eq_false (by omega)]; rfl
    subst e
    clear hB
    go_enter Tryz.func105, Tryz.ntmps105
    go_upto_region 1 with fail
    try rw [HW1.out]
    try rw [Hb0.out]
    go_wp2_with fail
    go_ret
    exact ⟨rfl, HX1.out⟩
  by_cases k2 : n < (c.texts.length : Nat)
  case neg =>
    have e : B = false := by
      rw [← hB]
      show (decide (0 ≤ n ∧ n < (c.texts.length : Nat)) && intB (c.texts.getD n.toNat ⟨#[]⟩)) = false
      rw [decide_eq_false (by omega)]; rfl
    subst e
    clear hB
    go_enter Tryz.func105, Tryz.ntmps105
    go_upto_region 1 with fail
    try rw [HW1.out]
    try rw [Hb0.out]
    go_wp2_with fail
    go_ret
    exact ⟨rfl, HX1.out⟩
  obtain ⟨m, rfl⟩ : ∃ m : Nat, n = (m : Int) := ⟨n.toNat, by omega⟩
  obtain ⟨tad, rfl⟩ : ∃ a, ta = some a := by
    cases ta with
    | none => have := ht1 rfl; rw [this] at k2; simp at k2; omega
    | some a => exact ⟨a, rfl⟩
  have hm : m < c.texts.length := by omega
  have z := hT.str_at hm
  have hmem : c.texts.getD m ⟨#[]⟩ ∈ c.texts := by rw [List.getD_eq_getElem?_getD, List.getElem?_eq_getElem hm]; exact List.getElem_mem hm
  have hcall := number_any (c.texts.getD m ⟨#[]⟩) (hts _ hmem) (plain_ascii (hp _ hmem)) W1
  have e : intB (c.texts.getD m ⟨#[]⟩) = B := by
    rw [← hB]
    show _ = (decide (0 ≤ (m : Int) ∧ (m : Int) < (c.texts.length : Nat)) && intB (c.texts.getD (m : Int).toNat ⟨#[]⟩))
    rw [show decide (0 ≤ (m : Int) ∧ (m : Int) < (c.texts.length : Nat)) = true from decide_eq_true (by omega), Int.toNat_natCast]; rfl
  rw [e] at hcall
  clear e hB hT hmem hp hts
  have HCall := Lib.hid hcall
  clear hcall
  generalize c.texts.getD m ⟨#[]⟩ = S at z HCall
  go_enter Tryz.func105, Tryz.ntmps105
  go_upto_region 1 with fail
  try rw [HW1.out]
  try rw [Hb0.out]
  go_wp2_with (go_at_call 141; refine HCall.out.mono ?_; rintro e w2 ⟨rfl, hx⟩; have HX := Lib.hid (HX1.out.trans hx); clear hx)
  go_ret
  exact ⟨rfl, HX.out⟩
set_option maxRecDepth 100000 in
set_option maxHeartbeats 1000000 in
theorem text_any {w : World} {dv lv tv rv iv : Value} {c : Co} {xs : List DeV} (h : RdCo w dv lv tv rv iv c xs) (hb : Big c) (hp : ∀ s ∈ c.texts, plainB s = true) (n : Int) :
    Calls Tryz.prog 107 #[codeV dv lv tv rv iv, .int .i64 n] w fun e w' => e = .returned (.bool (ckB c .text n)) ∧ Ex w w' := by
  obtain ⟨da, dc, rfl, -⟩ := id h.ds
  obtain ⟨la, lc, rfl, -⟩ := id h.ls
  obtain ⟨ta, tc, rfl, -, ht1, -⟩ := id h.ts
  obtain ⟨ra, rc, rfl, -⟩ := id h.rs
  obtain ⟨ia, ic, rfl, -⟩ := id h.is
  obtain ⟨W1, hW1⟩ : ∃ W1, w.alloc (.cells #[.slice da xs.length dc, .slice la c.labels.length lc, .slice ta c.texts.length tc, .slice ra c.reals.length rc, .slice ia c.instrs.length ic] 28) = W1 := ⟨_, rfl⟩
  obtain ⟨b0, hb0⟩ : ∃ b0, w.heap.size = b0 := ⟨_, rfl⟩
  have hX1 : Ex w W1 := by rw [← hW1]; exact (Keeps.refl _ w).alloc _
  have hB0 : Blk W1 b0 #[.slice da xs.length dc, .slice la c.labels.length lc, .slice ta c.texts.length tc, .slice ra c.reals.length rc, .slice ia c.instrs.length ic] 28 := by rw [← hW1, ← hb0]; exact Blk.new w _ _
  have x2 : W1.cell? ⟨b0, 2, none⟩ = some (.slice ta c.texts.length tc) := (hB0.cell 2).trans rfl
  have hT := h.ts.ext hX1
  have htl := hb.t
  have hts := hb.s
  have HW1 := Lib.hid hW1; have Hb0 := Lib.hid hb0; have HX1 := Lib.hid hX1
  clear hW1 hb0 hX1 hB0 h hb
  generalize hB : ckB c .text n = B
  unfold codeV
  by_cases k1 : 0 ≤ n
  case neg =>
    have e : B = false := by
      rw [← hB]
      show (decide (0 ≤ n ∧ n < (c.texts.length : Nat)) && plainB (c.texts.getD n.toNat ⟨#[]⟩)) = false
      rw [decide_eq_false (by omega)]; rfl
    subst e
    clear hB
    go_enter Tryz.func107, Tryz.ntmps107
    go_upto_region 1 with fail
    try rw [HW1.out]
    try rw [Hb0.out]
    go_wp2_with fail
    go_ret
    exact ⟨rfl, HX1.out⟩
  by_cases k2 : n < (c.texts.length : Nat)
  case neg =>
    have e : B = false := by
      rw [← hB]
      show (decide (0 ≤ n ∧ n < (c.texts.length : Nat)) && plainB (c.texts.getD n.toNat ⟨#[]⟩)) = false
      rw [decide_eq_false (by omega)]; rfl
    subst e
    clear hB
    go_enter Tryz.func107, Tryz.ntmps107
    go_upto_region 1 with fail
    try rw [HW1.out]
    try rw [Hb0.out]
    go_wp2_with fail
    go_ret
    exact ⟨rfl, HX1.out⟩
  obtain ⟨m, rfl⟩ : ∃ m : Nat, n = (m : Int) := ⟨n.toNat, by omega⟩
  obtain ⟨tad, rfl⟩ : ∃ a, ta = some a := by
    cases ta with
    | none => have := ht1 rfl; rw [this] at k2; simp at k2; omega
    | some a => exact ⟨a, rfl⟩
  have hm : m < c.texts.length := by omega
  have z := hT.str_at hm
  have hmem : c.texts.getD m ⟨#[]⟩ ∈ c.texts := by rw [List.getD_eq_getElem?_getD, List.getElem?_eq_getElem hm]; exact List.getElem_mem hm
  have hcall := plain_any (c.texts.getD m ⟨#[]⟩) (hts _ hmem) W1
  have e : plainB (c.texts.getD m ⟨#[]⟩) = B := by
    rw [← hB]
    show _ = (decide (0 ≤ (m : Int) ∧ (m : Int) < (c.texts.length : Nat)) && plainB (c.texts.getD (m : Int).toNat ⟨#[]⟩))
    rw [show decide (0 ≤ (m : Int) ∧ (m : Int) < (c.texts.length : Nat)) = true from decide_eq_true (by omega), Int.toNat_natCast]; rfl
  rw [e] at hcall
  clear e hB hT hmem hp hts
  have HCall := Lib.hid hcall
  clear hcall
  generalize c.texts.getD m ⟨#[]⟩ = S at z HCall
  go_enter Tryz.func107, Tryz.ntmps107
  go_upto_region 1 with fail
  try rw [HW1.out]
  try rw [Hb0.out]
  go_wp2_with (go_at_call 68; refine HCall.out.mono ?_; rintro e w2 ⟨rfl, hx⟩; have HX := Lib.hid (HX1.out.trans hx); clear hx)
  go_ret
  exact ⟨rfl, HX.out⟩
end Go.Proofs.YtlaepkmnbbgbcaaGreatDoor
/- fits: the error of an instruction. -/
namespace Go.Proofs.YtlaepkmnbbgbcaaGreatDoor
open Go.RowKit Go.Instr
set_option linter.unusedVariables false
set_option linter.unusedSimpArgs false
attribute [local go_sem] Oper.semAt_some

/-- The checks that the table of the operations has. -/
def Ck.known : Ck → Bool
  | .idx f => decide (f = 102 ∨ f = 103 ∨ f = 104 ∨ f = 106)
  | _ => true
theorem opT_known : ∀ o ∈ opT, o.a.known = true ∧ o.b.known = true := by decide +kernel
theorem eql_nil (w : World) : (binOp .eql 116 .nilFunc .nilFunc).run Tryz.prog w = .ok (.bool true) w := by kernel_rfl
theorem neq_nil (w : World) : (binOp .neq 116 .nilFunc .nilFunc).run Tryz.prog w = .ok (.bool false) w := by kernel_rfl
theorem eql_fn (f : Fn) (lb : Array Value) (w : World) : (binOp .eql 116 (.func f #[] lb) .nilFunc).run Tryz.prog w = .ok (.bool false) w := by kernel_rfl
theorem neq_fn (f : Fn) (lb : Array Value) (w : World) : (binOp .neq 116 (.func f #[] lb) .nilFunc).run Tryz.prog w = .ok (.bool true) w := by kernel_rfl
theorem opT_texts : (opT.map (·.key)).Nodup := by decide +kernel

set_option maxRecDepth 100000 in
set_option maxHeartbeats 1000000 in
theorem fits1_any {w : World} {dv lv tv rv iv : Value} {c : Co} {xs : List DeV} (h : RdCo w dv lv tv rv iv c xs) (hb : Big c) (hp : ∀ s ∈ c.texts, plainB s = true) {bc : Nat} (hB : Blk w bc #[dv, lv, tv, rv, iv] 28) {v : Value} {k : Ck} (hv : CkV w v k) (hk : k.known = true) (n : Int) :
    Calls Tryz.prog 125 #[v, .int .i64 n, .pointer (some ⟨bc, 0, none⟩)] w fun e w' => e = .returned (.bool (ckB c k n)) ∧ Ex w w' := by
  have hint := integer_any h hb hp n
  have htxt := text_any h hb hp n
  obtain ⟨da, dc, rfl, -⟩ := id h.ds
  obtain ⟨la, lc, rfl, -⟩ := id h.ls
  obtain ⟨ta, tc, rfl, -⟩ := id h.ts
  obtain ⟨ra, rc, rfl, -⟩ := id h.rs
  obtain ⟨ia, ic, rfl, -⟩ := id h.is
  have x0 : w.cell? ⟨bc, 0, none⟩ = some (.slice da xs.length dc) := (hB.cell 0).trans rfl
  have x1 : w.cell? ⟨bc, 1, none⟩ = some (.slice la c.labels.length lc) := (hB.cell 1).trans rfl
  have x2 : w.cell? ⟨bc, 2, none⟩ = some (.slice ta c.texts.length tc) := (hB.cell 2).trans rfl
  have x3 : w.cell? ⟨bc, 3, none⟩ = some (.slice ra c.reals.length rc) := (hB.cell 3).trans rfl
  have x4 : w.cell? ⟨bc, 4, none⟩ = some (.slice ia c.instrs.length ic) := (hB.cell 4).trans rfl
  have hi := hb.i; have hl := hb.l; have hr := hb.r
  have hd : xs.length ≤ 1000000 := by rw [h.len]; exact hb.d
  have HDL := Lib.hid h.len
  unfold codeV at hint htxt
  clear h hb hp hB
  have q1 := eql_nil; have q2 := neq_nil; have q3 := eql_fn; have q4 := neq_fn
  cases k with
  | none =>
    have hv : v = .nilFunc := hv
    subst hv
    have hB : ckB c .none n = decide (n = 0) := rfl
    rw [hB]
    clear hint htxt hB
    by_cases k1 : n = 0
    · subst k1
      go_enter Tryz.func125, Tryz.ntmps125
      go_wp2
      go_ret
      exact ⟨rfl, Keeps.refl _ w⟩
    · have k2 : (n == 0) = false := by simpa using k1
      go_enter Tryz.func125, Tryz.ntmps125
      go_wp2
      go_ret
      exact ⟨by rw [decide_eq_false k1]; rfl, Keeps.refl _ w⟩
  | btw lo hi =>
    obtain ⟨b1, b2, rfl, h1, h2⟩ := hv
    have hB : ckB c (.btw lo hi) n = decide (lo ≤ n ∧ n ≤ hi) := rfl
    rw [hB]
    have hcall := between_call h1 h2 da la ta ra ia xs.length c.labels.length c.texts.length c.reals.length c.instrs.length dc lc tc rc ic n
    unfold codeV at hcall
    generalize decide (lo ≤ n ∧ n ≤ hi) = q at hcall ⊢
    have HC := Lib.hid hcall
    clear hint htxt hB hcall h1 h2
    go_enter Tryz.func125, Tryz.ntmps125
    go_wp2_with (go_at_call 139; refine HC.out.mono ?_; rintro e w2 ⟨rfl, hx⟩; have HX := Lib.hid hx; clear hx)
    go_ret
    exact ⟨rfl, HX.out⟩
  | int =>
    have hv : v = .func (.func 105) #[] #[] := hv
    subst hv
    generalize ckB c .int n = q at hint ⊢
    have HC := Lib.hid hint
    clear hint htxt
    go_enter Tryz.func125, Tryz.ntmps125
    go_wp2_with (go_at_call 105; refine HC.out.mono ?_; rintro e w2 ⟨rfl, hx⟩; have HX := Lib.hid hx; clear hx)
    go_ret
    exact ⟨rfl, HX.out⟩
  | text =>
    have hv : v = .func (.func 107) #[] #[] := hv
    subst hv
    generalize ckB c .text n = q at htxt ⊢
    have HC := Lib.hid htxt
    clear hint htxt
    go_enter Tryz.func125, Tryz.ntmps125
    go_wp2_with (go_at_call 107; refine HC.out.mono ?_; rintro e w2 ⟨rfl, hx⟩; have HX := Lib.hid hx; clear hx)
    go_ret
    exact ⟨rfl, HX.out⟩
  | idx f =>
    obtain ⟨b, rfl, h1⟩ := hv
    have hf : f = 102 ∨ f = 103 ∨ f = 104 ∨ f = 106 := by simpa [Ck.known] using hk
    clear hint htxt hk
    rcases hf with rfl | rfl | rfl | rfl
    · have hB : ckB c (.idx 102) n = decide (0 ≤ n ∧ n < (c.instrs.length : Nat)) := by
        show decide (0 ≤ n ∧ n < (c.lenOf 102 : Nat)) = _
        rw [show c.lenOf 102 = c.instrs.length from by unfold Co.lenOf; simp]
      rw [hB]
      have hcall := index1_call h1 da la ta ra ia xs.length c.labels.length c.texts.length c.reals.length c.instrs.length dc lc tc rc ic hi n
      unfold codeV at hcall
      generalize decide (0 ≤ n ∧ n < (c.instrs.length : Nat)) = q at hcall ⊢
      have HC := Lib.hid hcall
      clear hB hcall h1
      go_enter Tryz.func125, Tryz.ntmps125
      go_wp2_with (go_at_call 140; refine HC.out.mono ?_; rintro e w2 ⟨rfl, hx⟩; have HX := Lib.hid hx; clear hx)
      go_ret
      exact ⟨rfl, HX.out⟩
    · have hB : ckB c (.idx 103) n = decide (0 ≤ n ∧ n < (c.labels.length : Nat)) := by
        show decide (0 ≤ n ∧ n < (c.lenOf 103 : Nat)) = _
        rw [show c.lenOf 103 = c.labels.length from by unfold Co.lenOf; simp]
      rw [hB]
      have hcall := index2_call h1 da la ta ra ia xs.length c.labels.length c.texts.length c.reals.length c.instrs.length dc lc tc rc ic hl n
      unfold codeV at hcall
      generalize decide (0 ≤ n ∧ n < (c.labels.length : Nat)) = q at hcall ⊢
      have HC := Lib.hid hcall
      clear hB hcall h1
      go_enter Tryz.func125, Tryz.ntmps125
      go_wp2_with (go_at_call 140; refine HC.out.mono ?_; rintro e w2 ⟨rfl, hx⟩; have HX := Lib.hid hx; clear hx)
      go_ret
      exact ⟨rfl, HX.out⟩
    · have hB : ckB c (.idx 104) n = decide (0 ≤ n ∧ n < (xs.length : Nat)) := by
        show decide (0 ≤ n ∧ n < (c.lenOf 104 : Nat)) = _
        rw [show c.lenOf 104 = xs.length from by unfold Co.lenOf; simp; exact HDL.out.symm]
      rw [hB]
      have hcall := index3_call h1 da la ta ra ia xs.length c.labels.length c.texts.length c.reals.length c.instrs.length dc lc tc rc ic hd n
      unfold codeV at hcall
      generalize decide (0 ≤ n ∧ n < (xs.length : Nat)) = q at hcall ⊢
      have HC := Lib.hid hcall
      clear hB hcall h1
      go_enter Tryz.func125, Tryz.ntmps125
      go_wp2_with (go_at_call 140; refine HC.out.mono ?_; rintro e w2 ⟨rfl, hx⟩; have HX := Lib.hid hx; clear hx)
      go_ret
      exact ⟨rfl, HX.out⟩
    · have hB : ckB c (.idx 106) n = decide (0 ≤ n ∧ n < (c.reals.length : Nat)) := by
        show decide (0 ≤ n ∧ n < (c.lenOf 106 : Nat)) = _
        rw [show c.lenOf 106 = c.reals.length from by unfold Co.lenOf; simp]
      rw [hB]
      have hcall := index4_call h1 da la ta ra ia xs.length c.labels.length c.texts.length c.reals.length c.instrs.length dc lc tc rc ic hr n
      unfold codeV at hcall
      generalize decide (0 ≤ n ∧ n < (c.reals.length : Nat)) = q at hcall ⊢
      have HC := Lib.hid hcall
      clear hB hcall h1
      go_enter Tryz.func125, Tryz.ntmps125
      go_wp2_with (go_at_call 140; refine HC.out.mono ?_; rintro e w2 ⟨rfl, hx⟩; have HX := Lib.hid hx; clear hx)
      go_ret
      exact ⟨rfl, HX.out⟩
end Go.Proofs.YtlaepkmnbbgbcaaGreatDoor
/- fits: the error of an instruction. -/
namespace Go.Proofs.YtlaepkmnbbgbcaaGreatDoor
open Go.RowKit Go.Instr
set_option linter.unusedVariables false
set_option linter.unusedSimpArgs false
attribute [local go_sem] Oper.semAt_some

section
variable {P : Program} {T K E : TypeId} {q : IntKind}
/-- 'v, ok := m[k]' of a map whose keys are ints. -/
theorem run_lookup_ok (hT : P.underlying T = some (.map K E)) (hK : P.underlying K = some (.int q)) {z : Value} (hz : ∀ w, (zeroValue E).run P w = .ok z w)
    {w : World} {m clock : Nat} {es : Array MapEntry} (hm : w.heap[m]? = some (.map es clock)) (he : ∀ e ∈ es, ∃ k, e.key = .int .i64 k) (k : Int) :
    (Instr.lookup T (.map (some m)) (.int .i64 k) true).run P w = .ok (.tuple #[(esGet es.toList k).getD z, .bool (esGet es.toList k).isSome]) w := by
  obtain ⟨r, h1, h2, -, -⟩ := findNow_int es.toList (by simpa using he) k q 0
  have hf : (findKey K (.int .i64 k) es.toList).run P w = .ok r w := by
    unfold findKey; simp [run_underlying hK, h1]
  have hc := run_checkKey_int (P := P) hK w
  have hg : (getObj m).run P w = .ok (.map es clock) w := by simp [getObj, Sem.run, hm]
  unfold Instr.lookup
  simp only [Sem.run_bind, run_underlying hT, hg, Result.andThen_ok, Sem.run_pure]
  rw [hc, Result.andThen_ok, hf, Result.andThen_ok]
  cases r with
  | none => simp at h2; simp [hz, ← h2]
  | some x => simp at h2; simp [← h2]
end
theorem zero_op : ∀ w, (zeroValue 118).run Tryz.prog w = .ok (.agg #[.string ⟨#[]⟩, .nilFunc, .nilFunc]) w := Tryz.zeroValue118
/-- What the table gives. -/
theorem RD.look {w : World} {m : Nat} {T : List Op1} (h : RD w m T) (k : Int) :
    match T.find? (fun o => decide (o.key = k)) with
    | none => (Instr.lookup 111 (.map (some m)) (.int .i64 k) true).run Tryz.prog w = .ok (.tuple #[.agg #[.string ⟨#[]⟩, .nilFunc, .nilFunc], .bool false]) w
    | some o => ∃ va vb, (Instr.lookup 111 (.map (some m)) (.int .i64 k) true).run Tryz.prog w = .ok (.tuple #[.agg #[.string o.name, va, vb], .bool true]) w ∧ CkV w va o.a ∧ CkV w vb o.b := by
  obtain ⟨F, ⟨es, ck, e1, e2, e3⟩, hall⟩ := h
  have hr := run_lookup_ok (P := Tryz.prog) Tryz.underlying111 Tryz.underlying3 zero_op e1 e2.key k
  have h3 := hall k
  rw [e3 k] at hr
  cases hf : T.find? (fun o => decide (o.key = k)) with
  | none =>
    rw [hf] at h3
    rw [h3] at hr
    exact hr
  | some o =>
    rw [hf] at h3
    obtain ⟨va, vb, e4, e5, e6⟩ := h3
    rw [e4] at hr
    exact ⟨va, vb, hr, e5, e6⟩
/-- A check is nil or a function. -/
theorem CkV.form {w : World} {v : Value} {k : Ck} (h : CkV w v k) : v = .nilFunc ∨ ∃ f lb, v = .func (.func f) #[] lb := by
  cases k with
  | none => exact .inl h
  | btw lo hi => obtain ⟨b1, b2, e, -⟩ := h; exact .inr ⟨_, _, e⟩
  | idx f => obtain ⟨b, e, -⟩ := h; exact .inr ⟨_, _, e⟩
  | int => exact .inr ⟨_, _, h⟩
  | text => exact .inr ⟨_, _, h⟩
theorem insE_some {c : Co} {x : Ins} {o : Op1} (h : opFind x.op = some o) : insE c x = if ckB c o.a x.a && ckB c o.b x.b then 0 else 3 := by
  unfold insE; rw [h]
theorem insE_none {c : Co} {x : Ins} (h : opFind x.op = none) : insE c x = 1 := by
  unfold insE; rw [h]
set_option maxRecDepth 100000 in
set_option maxHeartbeats 4000000 in
theorem fits_any {w : World} {dv lv tv rv iv : Value} {c : Co} {xs : List DeV} (h : RdCo w dv lv tv rv iv c xs) (hb : Big c) (hp : ∀ s ∈ c.texts, plainB s = true) {m : Nat} (hm : RD w m opT) (x : Ins) :
    Calls Tryz.prog 72 #[codeV dv lv tv rv iv, .map (some m), .agg #[.int .i64 x.op, .int .i64 x.a, .int .i64 x.b]] w fun e w' => e = .returned (.int .i64 (insE c x)) ∧ Ex w w' := by
  have hcx : Hid (RdCo w dv lv tv rv iv c xs) := Lib.hid h
  obtain ⟨da, dc, rfl, -⟩ := id h.ds
  obtain ⟨la, lc, rfl, -⟩ := id h.ls
  obtain ⟨ta, tc, rfl, -⟩ := id h.ts
  obtain ⟨ra, rc, rfl, -⟩ := id h.rs
  obtain ⟨ia, ic, rfl, -⟩ := id h.is
  obtain ⟨W1, hW1⟩ : ∃ W1, w.alloc (.cells #[.slice da xs.length dc, .slice la c.labels.length lc, .slice ta c.texts.length tc, .slice ra c.reals.length rc, .slice ia c.instrs.length ic] 28) = W1 := ⟨_, rfl⟩
  obtain ⟨b0, hb0⟩ : ∃ b0, w.heap.size = b0 := ⟨_, rfl⟩
  have hX1 : Ex w W1 := by rw [← hW1]; exact (Keeps.refl _ w).alloc _
  have hB0 : Blk W1 b0 #[.slice da xs.length dc, .slice la c.labels.length lc, .slice ta c.texts.length tc, .slice ra c.reals.length rc, .slice ia c.instrs.length ic] 28 := by rw [← hW1, ← hb0]; exact Blk.new w _ _
  have hs1 : W1.heap.size = b0 + 1 := by rw [← hW1, ← hb0, World.size_alloc]
  obtain ⟨W2, hW2⟩ : ∃ W2, W1.alloc (.cells #[.int .i64 x.op, .int .i64 x.a, .int .i64 x.b] 82) = W2 := ⟨_, rfl⟩
  have hX12 : Ex W1 W2 := by rw [← hW2]; exact (Keeps.refl _ W1).alloc _
  have hX2 : Ex w W2 := hX1.trans hX12
  have hB1 : Blk W2 (b0 + 1) #[.int .i64 x.op, .int .i64 x.a, .int .i64 x.b] 82 := by rw [← hW2, ← hs1]; exact Blk.new W1 _ _
  have hs2 : W2.heap.size = b0 + 2 := by rw [← hW2, World.size_alloc, hs1]
  have HB0 := Lib.hid (hX12.blk hB0 id); have HB1 := Lib.hid hB1
  have x5 : W2.cell? ⟨b0 + 1, 0, none⟩ = some (.int .i64 x.op) := (hB1.cell 0).trans rfl
  have hlook := (hm.ext hX2).look x.op
  have HW1 := Lib.hid hW1; have Hb0 := Lib.hid hb0; have HW2 := Lib.hid hW2; have HX2 := Lib.hid hX2; have Hs1 := Lib.hid hs1; have Hs2 := Lib.hid hs2
  clear hW1 hb0 hX1 hB0 h hs1 hW2 hX12 hX2 hB1 hs2 hm
  generalize hE : insE c x = E
  have HE := Lib.hid hE
  clear hE
  unfold codeV
  go_enter Tryz.func72, Tryz.ntmps72
  go_upto_region 1 with fail
  rw [HW1.out]
  try rw [Hb0.out]
  rw [HW2.out]
  try rw [Hs1.out]
  cases hf : opFind x.op with
  | none =>
    unfold opFind at hf
    rw [hf] at hlook
    have e : E = 1 := by rw [← HE.out]; exact insE_none hf
    subst e
    clear hf
    simp only at hlook
    go_wp2_with fail
    go_ret
    exact ⟨rfl, HX2.out.alloc _⟩
  | some o =>
    have hE := insE_some (c := c) hf
    rw [HE.out] at hE
    have hmem : o ∈ opT := List.mem_of_find?_eq_some hf
    obtain ⟨kn1, kn2⟩ := opT_known o hmem
    unfold opFind at hf
    rw [hf] at hlook
    clear hf
    simp only at hlook
    obtain ⟨va, vb, hl, hva, hvb⟩ := hlook
    obtain ⟨W3, hW3⟩ : ∃ W3, W2.alloc (.cells #[.string o.name, va, vb] 118) = W3 := ⟨_, rfl⟩
    have hX23 : Ex W2 W3 := by rw [← hW3]; exact (Keeps.refl _ W2).alloc _
    have hX3 : Ex w W3 := HX2.out.trans hX23
    have hB2 : Blk W3 (b0 + 2) #[.string o.name, va, vb] 118 := by rw [← hW3, ← Hs2.out]; exact Blk.new W2 _ _
    have y1 : W3.cell? ⟨b0 + 2, 1, none⟩ = some va := (hB2.cell 1).trans rfl
    have y2 : ∀ V, Ex W3 V → V.cell? ⟨b0 + 2, 2, none⟩ = some vb := fun V hV => ((hV.blk hB2 id).cell 2).trans rfl
    have y5 : W3.cell? ⟨b0 + 1, 1, none⟩ = some (.int .i64 x.a) := ((hX23.blk HB1.out id).cell 1).trans rfl
    have y6 : ∀ V, Ex W3 V → V.cell? ⟨b0 + 1, 2, none⟩ = some (.int .i64 x.b) := fun V hV => ((hV.blk (hX23.blk HB1.out id) id).cell 2).trans rfl
    have hc1 := fits1_any (hcx.out.ext hX3) hb hp (hX23.blk HB0.out id) (hva.ext hX23) kn1 x.a
    have hc2 : ∀ V, Ex W3 V → Calls Tryz.prog 125 #[vb, .int .i64 x.b, .pointer (some ⟨b0, 0, none⟩)] V fun e w' => e = .returned (.bool (ckB c o.b x.b)) ∧ Ex V w' := fun V hV =>
      fits1_any ((hcx.out.ext hX3).ext hV) hb hp (hV.blk (hX23.blk HB0.out id) id) ((hvb.ext hX23).ext hV) kn2 x.b
    have HC1 := Lib.hid hc1; have HC2 := Lib.hid hc2; have HY2 := Lib.hid y2; have HY6 := Lib.hid y6; have HW3 := Lib.hid hW3; have HX3 := Lib.hid hX3
    have fa := hva.form
    have fb := hvb.form
    clear hc1 hc2 y2 y6 hW3 hX23 hX3 hB2 hva hvb hmem kn1 kn2 hb hp hcx
    generalize o.name = nm at *
    generalize ckB c o.a x.a = ka at *
    generalize ckB c o.b x.b = kb at *
    rcases fa with rfl | ⟨f1, l1, rfl⟩ <;> rcases fb with rfl | ⟨f2, l2, rfl⟩
    · go_upto_region 4 with fail
      rw [HW3.out]
      try rw [Hs2.out]
      cases ka with
      | false =>
        have e : E = 3 := hE
        clear hE
        subst e
        go_wp2_with (go_at_call 125; refine HC1.out.mono ?_; rintro e w4 ⟨rfl, hx⟩; have HX := Lib.hid (HX3.out.trans hx); clear hx)
        go_ret
        exact ⟨rfl, HX.out⟩
      | true =>
        go_wp2_with fail
        refine HC1.out.mono ?_
        rintro e w4 ⟨rfl, hx⟩
        have HX := Lib.hid (HX3.out.trans hx)
        have hc2 := HC2.out w4 hx
        have y2 := HY2.out w4 hx
        have y6 := HY6.out w4 hx
        have HCC := Lib.hid hc2
        clear hx hc2
        cases kb with
        | false =>
          have e : E = 3 := hE
          clear hE
          subst e
          go_wp2_with (go_at_call 125; refine HCC.out.mono ?_; rintro e w5 ⟨rfl, hx⟩; have HX5 := Lib.hid (HX.out.trans hx); clear hx)
          go_ret
          exact ⟨rfl, HX5.out⟩
        | true =>
          have e : E = 0 := hE
          clear hE
          subst e
          go_wp2_with (go_at_call 125; refine HCC.out.mono ?_; rintro e w5 ⟨rfl, hx⟩; have HX5 := Lib.hid (HX.out.trans hx); clear hx)
          go_ret
          exact ⟨rfl, HX5.out⟩
    · go_upto_region 4 with fail
      rw [HW3.out]
      try rw [Hs2.out]
      cases ka with
      | false =>
        have e : E = 3 := hE
        clear hE
        subst e
        go_wp2_with (go_at_call 125; refine HC1.out.mono ?_; rintro e w4 ⟨rfl, hx⟩; have HX := Lib.hid (HX3.out.trans hx); clear hx)
        go_ret
        exact ⟨rfl, HX.out⟩
      | true =>
        go_wp2_with fail
        refine HC1.out.mono ?_
        rintro e w4 ⟨rfl, hx⟩
        have HX := Lib.hid (HX3.out.trans hx)
        have hc2 := HC2.out w4 hx
        have y2 := HY2.out w4 hx
        have y6 := HY6.out w4 hx
        have HCC := Lib.hid hc2
        clear hx hc2
        cases kb with
        | false =>
          have e : E = 3 := hE
          clear hE
          subst e
          go_wp2_with (go_at_call 125; refine HCC.out.mono ?_; rintro e w5 ⟨rfl, hx⟩; have HX5 := Lib.hid (HX.out.trans hx); clear hx)
          go_ret
          exact ⟨rfl, HX5.out⟩
        | true =>
          have e : E = 0 := hE
          clear hE
          subst e
          go_wp2_with (go_at_call 125; refine HCC.out.mono ?_; rintro e w5 ⟨rfl, hx⟩; have HX5 := Lib.hid (HX.out.trans hx); clear hx)
          go_ret
          exact ⟨rfl, HX5.out⟩
    · go_upto_region 4 with fail
      rw [HW3.out]
      try rw [Hs2.out]
      cases ka with
      | false =>
        have e : E = 3 := hE
        clear hE
        subst e
        go_wp2_with (go_at_call 125; refine HC1.out.mono ?_; rintro e w4 ⟨rfl, hx⟩; have HX := Lib.hid (HX3.out.trans hx); clear hx)
        go_ret
        exact ⟨rfl, HX.out⟩
      | true =>
        go_wp2_with fail
        refine HC1.out.mono ?_
        rintro e w4 ⟨rfl, hx⟩
        have HX := Lib.hid (HX3.out.trans hx)
        have hc2 := HC2.out w4 hx
        have y2 := HY2.out w4 hx
        have y6 := HY6.out w4 hx
        have HCC := Lib.hid hc2
        clear hx hc2
        cases kb with
        | false =>
          have e : E = 3 := hE
          clear hE
          subst e
          go_wp2_with (go_at_call 125; refine HCC.out.mono ?_; rintro e w5 ⟨rfl, hx⟩; have HX5 := Lib.hid (HX.out.trans hx); clear hx)
          go_ret
          exact ⟨rfl, HX5.out⟩
        | true =>
          have e : E = 0 := hE
          clear hE
          subst e
          go_wp2_with (go_at_call 125; refine HCC.out.mono ?_; rintro e w5 ⟨rfl, hx⟩; have HX5 := Lib.hid (HX.out.trans hx); clear hx)
          go_ret
          exact ⟨rfl, HX5.out⟩
    · go_upto_region 4 with fail
      rw [HW3.out]
      try rw [Hs2.out]
      cases ka with
      | false =>
        have e : E = 3 := hE
        clear hE
        subst e
        go_wp2_with (go_at_call 125; refine HC1.out.mono ?_; rintro e w4 ⟨rfl, hx⟩; have HX := Lib.hid (HX3.out.trans hx); clear hx)
        go_ret
        exact ⟨rfl, HX.out⟩
      | true =>
        go_wp2_with fail
        refine HC1.out.mono ?_
        rintro e w4 ⟨rfl, hx⟩
        have HX := Lib.hid (HX3.out.trans hx)
        have hc2 := HC2.out w4 hx
        have y2 := HY2.out w4 hx
        have y6 := HY6.out w4 hx
        have HCC := Lib.hid hc2
        clear hx hc2
        cases kb with
        | false =>
          have e : E = 3 := hE
          clear hE
          subst e
          go_wp2_with (go_at_call 125; refine HCC.out.mono ?_; rintro e w5 ⟨rfl, hx⟩; have HX5 := Lib.hid (HX.out.trans hx); clear hx)
          go_ret
          exact ⟨rfl, HX5.out⟩
        | true =>
          have e : E = 0 := hE
          clear hE
          subst e
          go_wp2_with (go_at_call 125; refine HCC.out.mono ?_; rintro e w5 ⟨rfl, hx⟩; have HX5 := Lib.hid (HX.out.trans hx); clear hx)
          go_ret
          exact ⟨rfl, HX5.out⟩
end Go.Proofs.YtlaepkmnbbgbcaaGreatDoor
/- The closures of Check; real.Valid. -/
namespace Go.Proofs.YtlaepkmnbbgbcaaGreatDoor
open Go.RowKit Go.Instr
set_option linter.unusedVariables false
set_option linter.unusedSimpArgs false
attribute [local go_sem] Oper.semAt_some

/-- What real.Valid says. -/
def realV (man exp : Int) : Bool :=
  if man = 0 then decide (exp = 0) else
  let m := if man < 0 then wrap64 (-man) else man
  decide (100000000000 ≤ m) && decide (m < 1000000000000) && decide (-111 ≤ exp) && decide (exp ≤ 88)
set_option maxRecDepth 100000 in
theorem sizeR_any (n : Int) (w : World) : Calls Tryz.prog 124 #[.int .i64 n] w fun e w' => e = .returned (.int .i64 (if n < 0 then wrap64 (-n) else n)) ∧ w' = w := by
  by_cases k1 : n < 0
  · go_enter Tryz.func124, Tryz.ntmps124
    go_wp2
    go_ret
    exact ⟨by simp [k1], rfl⟩
  · go_enter Tryz.func124, Tryz.ntmps124
    go_wp2
    go_ret
    exact ⟨by simp [k1], rfl⟩
set_option maxRecDepth 100000 in
set_option maxHeartbeats 1000000 in
theorem real_any (man exp : Int) (w : World) : Calls Tryz.prog 71 #[.agg #[.int .i64 man, .int .i64 exp]] w fun e w' => e = .returned (.bool (realV man exp)) ∧ Ex w w' := by
  obtain ⟨W1, hW1⟩ : ∃ W1, w.alloc (.cells #[.int .i64 man, .int .i64 exp] 94) = W1 := ⟨_, rfl⟩
  obtain ⟨b0, hb0⟩ : ∃ b0, w.heap.size = b0 := ⟨_, rfl⟩
  have hX1 : Ex w W1 := by rw [← hW1]; exact (Keeps.refl _ w).alloc _
  have hB0 : Blk W1 b0 #[.int .i64 man, .int .i64 exp] 94 := by rw [← hW1, ← hb0]; exact Blk.new w _ _
  have x0 : W1.cell? ⟨b0, 0, none⟩ = some (.int .i64 man) := (hB0.cell 0).trans rfl
  have x1 : W1.cell? ⟨b0, 1, none⟩ = some (.int .i64 exp) := (hB0.cell 1).trans rfl
  have HW1 := Lib.hid hW1; have Hb0 := Lib.hid hb0
  clear hW1 hb0 hB0
  by_cases k0 : man = 0
  · subst k0
    have e : realV 0 exp = decide (exp = 0) := rfl
    rw [e]
    by_cases k1 : exp = 0
    · subst k1
      go_enter Tryz.func71, Tryz.ntmps71
      go_upto_region 1 with fail
      rw [HW1.out]
      try rw [Hb0.out]
      go_wp2_with fail
      go_ret
      exact ⟨rfl, hX1⟩
    · have k2 : (exp == 0) = false := by simpa using k1
      rw [decide_eq_false k1]
      go_enter Tryz.func71, Tryz.ntmps71
      go_upto_region 1 with fail
      rw [HW1.out]
      try rw [Hb0.out]
      go_wp2_with fail
      go_ret
      exact ⟨rfl, hX1⟩
  · have k0' : (man == 0) = false := by simpa using k0
    have hs := sizeR_any man W1
    obtain ⟨m, hm⟩ : ∃ m, (if man < 0 then wrap64 (-man) else man) = m := ⟨_, rfl⟩
    have e : realV man exp = (decide (100000000000 ≤ m) && decide (m < 1000000000000) && decide (-111 ≤ exp) && decide (exp ≤ 88)) := by
      unfold realV; rw [if_neg k0, ← hm]
    rw [hm] at hs
    generalize realV man exp = B at e ⊢
    have HE := Lib.hid e
    have HS := Lib.hid hs
    have HX := Lib.hid hX1
    clear hm hs e k0 hX1
    by_cases k1 : 100000000000 ≤ m
    case neg =>
      have e : B = false := by rw [HE.out, decide_eq_false k1]; simp
      subst e
      go_enter Tryz.func71, Tryz.ntmps71
      go_upto_region 1 with fail
      rw [HW1.out]
      try rw [Hb0.out]
      go_wp2_with (go_at_call 124; refine HS.out.mono ?_; rintro e w2 ⟨rfl, rfl⟩)
      go_ret
      exact ⟨rfl, HX.out⟩
    by_cases k2 : m < 1000000000000
    case neg =>
      have e : B = false := by rw [HE.out, decide_eq_false k2]; simp
      subst e
      go_enter Tryz.func71, Tryz.ntmps71
      go_upto_region 1 with fail
      rw [HW1.out]
      try rw [Hb0.out]
      go_wp2_with (go_at_call 124; refine HS.out.mono ?_; rintro e w2 ⟨rfl, rfl⟩)
      go_ret
      exact ⟨rfl, HX.out⟩
    by_cases k3 : -111 ≤ exp
    case neg =>
      have e : B = false := by rw [HE.out, decide_eq_false k3]; simp
      subst e
      go_enter Tryz.func71, Tryz.ntmps71
      go_upto_region 1 with fail
      rw [HW1.out]
      try rw [Hb0.out]
      go_wp2_with (go_at_call 124; refine HS.out.mono ?_; rintro e w2 ⟨rfl, rfl⟩)
      go_ret
      exact ⟨rfl, HX.out⟩
    have e : B = decide (exp ≤ 88) := by rw [HE.out, decide_eq_true k1, decide_eq_true k2, decide_eq_true k3]; simp
    subst e
    go_enter Tryz.func71, Tryz.ntmps71
    go_upto_region 1 with fail
    rw [HW1.out]
    try rw [Hb0.out]
    go_wp2_with (go_at_call 124; refine HS.out.mono ?_; rintro e w2 ⟨rfl, rfl⟩)
    go_ret
    exact ⟨rfl, HX.out⟩

/-! ### The closures -/
theorem check3_any (s : ByteArray) (hs : s.size ≤ 1000000) (w : World) : Calls Tryz.prog 67 #[.string s] w fun e w' => e = .returned (.bool (!plainB s)) ∧ Ex w w' := by
  have h := plain_any s hs w
  generalize plainB s = b at h ⊢
  have H := Lib.hid h
  clear h
  go_enter Tryz.func67, Tryz.ntmps67
  go_wp2_with (go_at_call 68; refine H.out.mono ?_; rintro e w2 ⟨rfl, hx⟩; have HX := Lib.hid hx; clear hx)
  go_ret
  exact ⟨rfl, HX.out⟩
theorem realB_of (x : Int × Int) : realB x = (realV x.1 x.2 && decide (0 ≤ x.1)) := by
  unfold realB realV
  by_cases h : x.1 = 0
  · simp [h]
  · by_cases h2 : x.1 < 0
    · rw [if_neg h, if_neg h, decide_eq_false (show ¬ 0 ≤ x.1 by omega), decide_eq_false (show ¬ 100000000000 ≤ x.1 by omega)]; simp
    · rw [if_neg h, if_neg h, if_neg h2, decide_eq_true (show 0 ≤ x.1 by omega)]; simp
set_option maxRecDepth 100000 in
theorem check4_any (x : Int × Int) (w : World) : Calls Tryz.prog 70 #[.agg #[.int .i64 x.1, .int .i64 x.2]] w fun e w' => e = .returned (.bool (!realB x)) ∧ Ex w w' := by
  obtain ⟨W1, hW1⟩ : ∃ W1, w.alloc (.cells #[.int .i64 x.1, .int .i64 x.2] 94) = W1 := ⟨_, rfl⟩
  obtain ⟨b0, hb0⟩ : ∃ b0, w.heap.size = b0 := ⟨_, rfl⟩
  have hX1 : Ex w W1 := by rw [← hW1]; exact (Keeps.refl _ w).alloc _
  have hB0 : Blk W1 b0 #[.int .i64 x.1, .int .i64 x.2] 94 := by rw [← hW1, ← hb0]; exact Blk.new w _ _
  have h := real_any x.1 x.2 W1
  have hr := realB_of x
  have y0 : ∀ V, Ex W1 V → V.cell? ⟨b0, 0, none⟩ = some (.int .i64 x.1) := fun V hV => ((hV.blk hB0 id).cell 0).trans rfl
  have y1 : W1.cell? ⟨b0, 1, none⟩ = some (.int .i64 x.2) := (hB0.cell 1).trans rfl
  have x0 := y0 W1 (Keeps.refl _ _)
  generalize realB x = B at hr ⊢
  generalize realV x.1 x.2 = v at h hr
  generalize x.1 = man at *
  generalize x.2 = exp at *
  have H := Lib.hid h; have HR := Lib.hid hr; have HX1 := Lib.hid hX1; have HY0 := Lib.hid y0; have HW1 := Lib.hid hW1; have Hb0 := Lib.hid hb0
  clear h hr hX1 y0 hB0 hW1 hb0
  cases v with
  | false =>
    have e : B = false := HR.out
    subst e
    go_enter Tryz.func70, Tryz.ntmps70
    go_upto_region 1 with fail
    rw [HW1.out]
    try rw [Hb0.out]
    go_wp2_with (go_at_call 71; refine H.out.mono ?_; rintro e w2 ⟨rfl, hx⟩; have HX := Lib.hid (HX1.out.trans hx); clear hx)
    go_ret
    exact ⟨rfl, HX.out⟩
  | true =>
    have e : B = !decide (man < 0) := by
      rw [HR.out, Bool.true_and, Bool.eq_iff_iff]; simp
    subst e
    go_enter Tryz.func70, Tryz.ntmps70
    go_upto_region 1 with fail
    rw [HW1.out]
    try rw [Hb0.out]
    go_wp2_with (go_at_call 71; refine H.out.mono ?_; rintro e w2 ⟨rfl, hx⟩; have HX := Lib.hid (HX1.out.trans hx); have z0 := HY0.out w2 hx; clear hx)
    go_ret
    exact ⟨by simp, HX.out⟩
end Go.Proofs.YtlaepkmnbbgbcaaGreatDoor
