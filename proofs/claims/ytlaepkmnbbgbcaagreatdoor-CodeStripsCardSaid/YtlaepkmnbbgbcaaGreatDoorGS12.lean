/- slices.Equal at the types of a code, for equal lists. (Written by wip/tools/genXG.py.) code.Same's closure: two descriptors that read alike. slices.EqualFunc with Same's closure. code.Same returns true for two codes that read alike. -/
import Derived.Test.YtlaepkmnbbgbcaaGreatDoorGB16
import Derived.BigRegion
import Derived.ChangeKeysEq
import Derived.Test.YtlaepkmnbbgbcaaGreatDoorGB9
/- slices.Equal at the types of a code, for equal lists. (Written by wip/tools/genXG.py.) -/
namespace Go.Proofs.YtlaepkmnbbgbcaaGreatDoor
open Go.RowKit Go.Instr Go.Shelf
set_option linter.unusedVariables false
set_option linter.unusedSimpArgs false
attribute [local go_sem] Oper.semAt_some

set_option maxRecDepth 100000 in
theorem equalI_any {w : World} {va vb : Value} {l : List (Int)} (ha : RdL encI w va l) (hb : RdL encI w vb l) (hl : l.length ≤ 1000000) : Calls Tryz.prog 79 #[va, vb] w fun e w' => e = .returned (.bool true) ∧ Ex w w' := by
  obtain ⟨aa, ac, rfl, -, ha1, -⟩ := id ha
  obtain ⟨ba, bc, rfl, -, hb1, -⟩ := id hb
  have HX0 : Hid (Ex w w) := Lib.hid (Keeps.refl _ w)
  obtain ⟨n, hn⟩ : ∃ n, l.length = n := ⟨_, rfl⟩
  rw [hn] at hl ⊢
  have HA := Lib.hid ha; have HB := Lib.hid hb; have HA1 := Lib.hid ha1; have HB1 := Lib.hid hb1; have Hn := Lib.hid hn
  clear ha hb ha1 hb1 hn
  go_enter Tryz.func79, Tryz.ntmps79
  go_wp2_with fail
  go_loopw [13] (fun s wr => ∃ k : Nat, k ≤ n ∧ s = .int .i64 k ∧ Hid (Ex w wr)) (fun s wr => n - (intOf s).toNat)
  case atStart => exact ⟨0, Nat.zero_le _, rfl, HX0⟩
  case round =>
    obtain ⟨k, hk, rfl, HX⟩ := hrel
    by_cases hlt : k < n
    case pos =>
      obtain ⟨ad, rfl⟩ : ∃ ad, aa = some ad := by
        cases aa with
        | none => have := HA1.out rfl; have h2 := Hn.out; rw [this] at h2; simp at h2; omega
        | some ad => exact ⟨ad, rfl⟩
      obtain ⟨bd, rfl⟩ : ∃ ad, ba = some ad := by
        cases ba with
        | none => have := HB1.out rfl; have h2 := Hn.out; rw [this] at h2; simp at h2; omega
        | some ad => exact ⟨ad, rfl⟩
      obtain ⟨x, hx⟩ : ∃ x, l[k]? = some x := ⟨_, List.getElem?_eq_getElem (by rw [Hn.out]; exact hlt)⟩
      obtain ⟨A, hA⟩ : ∃ A, ad.add (k * 1) = A := ⟨_, rfl⟩
      obtain ⟨B, hB⟩ : ∃ A, bd.add (k * 1) = A := ⟨_, rfl⟩
      have z0 : w.cell? A = some (.int .i64 x) := by have := (HA.out.at encI_len hx 0 (by omega)).trans rfl; rw [hA] at this; rw [Addr.add_zero'] at this; exact this
      have y0 : w.cell? B = some (.int .i64 x) := by have := (HB.out.at encI_len hx 0 (by omega)).trans rfl; rw [hB] at this; rw [Addr.add_zero'] at this; exact this
      rw [Nat.mul_one] at hA hB
      have s1 : ((k : Int) < n) := by omega
      have z0 := ex_cell HX.out z0
      have y0 := ex_cell HX.out y0
      have HXd : Hid (Ex w wr.drew) := Lib.hid HX.out.drew
      clear hx
      go_upto_region 6 with fail
      go_big_region
      go_wp2_with fail
      exact ⟨⟨k + 1, by omega, by go_num, HXd⟩, by simp [intOf]; omega⟩
    case neg =>
      have hkn : k = n := by omega
      subst hkn
      go_wp2_with fail
      go_ret
      exact ⟨rfl, HX.out⟩
set_option maxRecDepth 100000 in
theorem equalV_any {w : World} {va vb : Value} {l : List (Vt)} (ha : RdL encV w va l) (hb : RdL encV w vb l) (hl : l.length ≤ 1000000) : Calls Tryz.prog 80 #[va, vb] w fun e w' => e = .returned (.bool true) ∧ Ex w w' := by
  obtain ⟨aa, ac, rfl, -, ha1, -⟩ := id ha
  obtain ⟨ba, bc, rfl, -, hb1, -⟩ := id hb
  have HX0 : Hid (Ex w w) := Lib.hid (Keeps.refl _ w)
  obtain ⟨n, hn⟩ : ∃ n, l.length = n := ⟨_, rfl⟩
  rw [hn] at hl ⊢
  have HA := Lib.hid ha; have HB := Lib.hid hb; have HA1 := Lib.hid ha1; have HB1 := Lib.hid hb1; have Hn := Lib.hid hn
  clear ha hb ha1 hb1 hn
  go_enter Tryz.func80, Tryz.ntmps80
  go_wp2_with fail
  go_loopw [13] (fun s wr => ∃ k : Nat, k ≤ n ∧ s = .int .i64 k ∧ Hid (Ex w wr)) (fun s wr => n - (intOf s).toNat)
  case atStart => exact ⟨0, Nat.zero_le _, rfl, HX0⟩
  case round =>
    obtain ⟨k, hk, rfl, HX⟩ := hrel
    by_cases hlt : k < n
    case pos =>
      obtain ⟨ad, rfl⟩ : ∃ ad, aa = some ad := by
        cases aa with
        | none => have := HA1.out rfl; have h2 := Hn.out; rw [this] at h2; simp at h2; omega
        | some ad => exact ⟨ad, rfl⟩
      obtain ⟨bd, rfl⟩ : ∃ ad, ba = some ad := by
        cases ba with
        | none => have := HB1.out rfl; have h2 := Hn.out; rw [this] at h2; simp at h2; omega
        | some ad => exact ⟨ad, rfl⟩
      obtain ⟨x, hx⟩ : ∃ x, l[k]? = some x := ⟨_, List.getElem?_eq_getElem (by rw [Hn.out]; exact hlt)⟩
      obtain ⟨A, hA⟩ : ∃ A, ad.add (k * 4) = A := ⟨_, rfl⟩
      obtain ⟨B, hB⟩ : ∃ A, bd.add (k * 4) = A := ⟨_, rfl⟩
      have z0 : w.cell? A = some (.int .i64 x.id) := by have := (HA.out.at encV_len hx 0 (by omega)).trans rfl; rw [hA] at this; rw [Addr.add_zero'] at this; exact this
      have y0 : w.cell? B = some (.int .i64 x.id) := by have := (HB.out.at encV_len hx 0 (by omega)).trans rfl; rw [hB] at this; rw [Addr.add_zero'] at this; exact this
      have z1 : w.cell? ⟨A.block, A.off + 1, none⟩ = some (.int .i64 x.part) := by have := (HA.out.at encV_len hx 1 (by omega)).trans rfl; rw [hA] at this; exact this
      have y1 : w.cell? ⟨B.block, B.off + 1, none⟩ = some (.int .i64 x.part) := by have := (HB.out.at encV_len hx 1 (by omega)).trans rfl; rw [hB] at this; exact this
      have z2 : w.cell? ⟨A.block, A.off + 2, none⟩ = some (.int .i64 x.level) := by have := (HA.out.at encV_len hx 2 (by omega)).trans rfl; rw [hA] at this; exact this
      have y2 : w.cell? ⟨B.block, B.off + 2, none⟩ = some (.int .i64 x.level) := by have := (HB.out.at encV_len hx 2 (by omega)).trans rfl; rw [hB] at this; exact this
      have z3 : w.cell? ⟨A.block, A.off + 3, none⟩ = some (.int .i64 x.desc) := by have := (HA.out.at encV_len hx 3 (by omega)).trans rfl; rw [hA] at this; exact this
      have y3 : w.cell? ⟨B.block, B.off + 3, none⟩ = some (.int .i64 x.desc) := by have := (HB.out.at encV_len hx 3 (by omega)).trans rfl; rw [hB] at this; exact this
      have s1 : ((k : Int) < n) := by omega
      have z0 := ex_cell HX.out z0
      have y0 := ex_cell HX.out y0
      have z1 := ex_cell HX.out z1
      have y1 := ex_cell HX.out y1
      have z2 := ex_cell HX.out z2
      have y2 := ex_cell HX.out y2
      have z3 := ex_cell HX.out z3
      have y3 := ex_cell HX.out y3
      have HXd : Hid (Ex w wr.drew) := Lib.hid HX.out.drew
      clear hx
      go_upto_region 6 with fail
      go_big_region
      go_wp2_with fail
      exact ⟨⟨k + 1, by omega, by go_num, HXd⟩, by simp [intOf]; omega⟩
    case neg =>
      have hkn : k = n := by omega
      subst hkn
      go_wp2_with fail
      go_ret
      exact ⟨rfl, HX.out⟩
set_option maxRecDepth 100000 in
theorem equalL_any {w : World} {va vb : Value} {l : List (Int × Int)} (ha : RdL encL w va l) (hb : RdL encL w vb l) (hl : l.length ≤ 1000000) : Calls Tryz.prog 82 #[va, vb] w fun e w' => e = .returned (.bool true) ∧ Ex w w' := by
  obtain ⟨aa, ac, rfl, -, ha1, -⟩ := id ha
  obtain ⟨ba, bc, rfl, -, hb1, -⟩ := id hb
  have HX0 : Hid (Ex w w) := Lib.hid (Keeps.refl _ w)
  obtain ⟨n, hn⟩ : ∃ n, l.length = n := ⟨_, rfl⟩
  rw [hn] at hl ⊢
  have HA := Lib.hid ha; have HB := Lib.hid hb; have HA1 := Lib.hid ha1; have HB1 := Lib.hid hb1; have Hn := Lib.hid hn
  clear ha hb ha1 hb1 hn
  go_enter Tryz.func82, Tryz.ntmps82
  go_wp2_with fail
  go_loopw [13] (fun s wr => ∃ k : Nat, k ≤ n ∧ s = .int .i64 k ∧ Hid (Ex w wr)) (fun s wr => n - (intOf s).toNat)
  case atStart => exact ⟨0, Nat.zero_le _, rfl, HX0⟩
  case round =>
    obtain ⟨k, hk, rfl, HX⟩ := hrel
    by_cases hlt : k < n
    case pos =>
      obtain ⟨ad, rfl⟩ : ∃ ad, aa = some ad := by
        cases aa with
        | none => have := HA1.out rfl; have h2 := Hn.out; rw [this] at h2; simp at h2; omega
        | some ad => exact ⟨ad, rfl⟩
      obtain ⟨bd, rfl⟩ : ∃ ad, ba = some ad := by
        cases ba with
        | none => have := HB1.out rfl; have h2 := Hn.out; rw [this] at h2; simp at h2; omega
        | some ad => exact ⟨ad, rfl⟩
      obtain ⟨x, hx⟩ : ∃ x, l[k]? = some x := ⟨_, List.getElem?_eq_getElem (by rw [Hn.out]; exact hlt)⟩
      obtain ⟨A, hA⟩ : ∃ A, ad.add (k * 2) = A := ⟨_, rfl⟩
      obtain ⟨B, hB⟩ : ∃ A, bd.add (k * 2) = A := ⟨_, rfl⟩
      have z0 : w.cell? A = some (.int .i64 x.1) := by have := (HA.out.at encL_len hx 0 (by omega)).trans rfl; rw [hA] at this; rw [Addr.add_zero'] at this; exact this
      have y0 : w.cell? B = some (.int .i64 x.1) := by have := (HB.out.at encL_len hx 0 (by omega)).trans rfl; rw [hB] at this; rw [Addr.add_zero'] at this; exact this
      have z1 : w.cell? ⟨A.block, A.off + 1, none⟩ = some (.int .i64 x.2) := by have := (HA.out.at encL_len hx 1 (by omega)).trans rfl; rw [hA] at this; exact this
      have y1 : w.cell? ⟨B.block, B.off + 1, none⟩ = some (.int .i64 x.2) := by have := (HB.out.at encL_len hx 1 (by omega)).trans rfl; rw [hB] at this; exact this
      have s1 : ((k : Int) < n) := by omega
      have z0 := ex_cell HX.out z0
      have y0 := ex_cell HX.out y0
      have z1 := ex_cell HX.out z1
      have y1 := ex_cell HX.out y1
      have HXd : Hid (Ex w wr.drew) := Lib.hid HX.out.drew
      clear hx
      go_upto_region 6 with fail
      go_big_region
      go_wp2_with fail
      exact ⟨⟨k + 1, by omega, by go_num, HXd⟩, by simp [intOf]; omega⟩
    case neg =>
      have hkn : k = n := by omega
      subst hkn
      go_wp2_with fail
      go_ret
      exact ⟨rfl, HX.out⟩
set_option maxRecDepth 100000 in
theorem equalS_any {w : World} {va vb : Value} {l : List (ByteArray)} (ha : RdL encS w va l) (hb : RdL encS w vb l) (hl : l.length ≤ 1000000) : Calls Tryz.prog 83 #[va, vb] w fun e w' => e = .returned (.bool true) ∧ Ex w w' := by
  obtain ⟨aa, ac, rfl, -, ha1, -⟩ := id ha
  obtain ⟨ba, bc, rfl, -, hb1, -⟩ := id hb
  have HX0 : Hid (Ex w w) := Lib.hid (Keeps.refl _ w)
  obtain ⟨n, hn⟩ : ∃ n, l.length = n := ⟨_, rfl⟩
  rw [hn] at hl ⊢
  have HA := Lib.hid ha; have HB := Lib.hid hb; have HA1 := Lib.hid ha1; have HB1 := Lib.hid hb1; have Hn := Lib.hid hn
  clear ha hb ha1 hb1 hn
  go_enter Tryz.func83, Tryz.ntmps83
  go_wp2_with fail
  go_loopw [13] (fun s wr => ∃ k : Nat, k ≤ n ∧ s = .int .i64 k ∧ Hid (Ex w wr)) (fun s wr => n - (intOf s).toNat)
  case atStart => exact ⟨0, Nat.zero_le _, rfl, HX0⟩
  case round =>
    obtain ⟨k, hk, rfl, HX⟩ := hrel
    by_cases hlt : k < n
    case pos =>
      obtain ⟨ad, rfl⟩ : ∃ ad, aa = some ad := by
        cases aa with
        | none => have := HA1.out rfl; have h2 := Hn.out; rw [this] at h2; simp at h2; omega
        | some ad => exact ⟨ad, rfl⟩
      obtain ⟨bd, rfl⟩ : ∃ ad, ba = some ad := by
        cases ba with
        | none => have := HB1.out rfl; have h2 := Hn.out; rw [this] at h2; simp at h2; omega
        | some ad => exact ⟨ad, rfl⟩
      obtain ⟨x, hx⟩ : ∃ x, l[k]? = some x := ⟨_, List.getElem?_eq_getElem (by rw [Hn.out]; exact hlt)⟩
      obtain ⟨A, hA⟩ : ∃ A, ad.add (k * 1) = A := ⟨_, rfl⟩
      obtain ⟨B, hB⟩ : ∃ A, bd.add (k * 1) = A := ⟨_, rfl⟩
      have z0 : w.cell? A = some (.string x) := by have := (HA.out.at encS_len hx 0 (by omega)).trans rfl; rw [hA] at this; rw [Addr.add_zero'] at this; exact this
      have y0 : w.cell? B = some (.string x) := by have := (HB.out.at encS_len hx 0 (by omega)).trans rfl; rw [hB] at this; rw [Addr.add_zero'] at this; exact this
      rw [Nat.mul_one] at hA hB
      have s1 : ((k : Int) < n) := by omega
      have z0 := ex_cell HX.out z0
      have y0 := ex_cell HX.out y0
      have HXd : Hid (Ex w wr.drew) := Lib.hid HX.out.drew
      clear hx
      go_upto_region 6 with fail
      go_big_region
      go_wp2_with fail
      exact ⟨⟨k + 1, by omega, by go_num, HXd⟩, by simp [intOf]; omega⟩
    case neg =>
      have hkn : k = n := by omega
      subst hkn
      go_wp2_with fail
      go_ret
      exact ⟨rfl, HX.out⟩
set_option maxRecDepth 100000 in
theorem equalR_any {w : World} {va vb : Value} {l : List (Int × Int)} (ha : RdL encL w va l) (hb : RdL encL w vb l) (hl : l.length ≤ 1000000) : Calls Tryz.prog 84 #[va, vb] w fun e w' => e = .returned (.bool true) ∧ Ex w w' := by
  obtain ⟨aa, ac, rfl, -, ha1, -⟩ := id ha
  obtain ⟨ba, bc, rfl, -, hb1, -⟩ := id hb
  have HX0 : Hid (Ex w w) := Lib.hid (Keeps.refl _ w)
  obtain ⟨n, hn⟩ : ∃ n, l.length = n := ⟨_, rfl⟩
  rw [hn] at hl ⊢
  have HA := Lib.hid ha; have HB := Lib.hid hb; have HA1 := Lib.hid ha1; have HB1 := Lib.hid hb1; have Hn := Lib.hid hn
  clear ha hb ha1 hb1 hn
  go_enter Tryz.func84, Tryz.ntmps84
  go_wp2_with fail
  go_loopw [13] (fun s wr => ∃ k : Nat, k ≤ n ∧ s = .int .i64 k ∧ Hid (Ex w wr)) (fun s wr => n - (intOf s).toNat)
  case atStart => exact ⟨0, Nat.zero_le _, rfl, HX0⟩
  case round =>
    obtain ⟨k, hk, rfl, HX⟩ := hrel
    by_cases hlt : k < n
    case pos =>
      obtain ⟨ad, rfl⟩ : ∃ ad, aa = some ad := by
        cases aa with
        | none => have := HA1.out rfl; have h2 := Hn.out; rw [this] at h2; simp at h2; omega
        | some ad => exact ⟨ad, rfl⟩
      obtain ⟨bd, rfl⟩ : ∃ ad, ba = some ad := by
        cases ba with
        | none => have := HB1.out rfl; have h2 := Hn.out; rw [this] at h2; simp at h2; omega
        | some ad => exact ⟨ad, rfl⟩
      obtain ⟨x, hx⟩ : ∃ x, l[k]? = some x := ⟨_, List.getElem?_eq_getElem (by rw [Hn.out]; exact hlt)⟩
      obtain ⟨A, hA⟩ : ∃ A, ad.add (k * 2) = A := ⟨_, rfl⟩
      obtain ⟨B, hB⟩ : ∃ A, bd.add (k * 2) = A := ⟨_, rfl⟩
      have z0 : w.cell? A = some (.int .i64 x.1) := by have := (HA.out.at encL_len hx 0 (by omega)).trans rfl; rw [hA] at this; rw [Addr.add_zero'] at this; exact this
      have y0 : w.cell? B = some (.int .i64 x.1) := by have := (HB.out.at encL_len hx 0 (by omega)).trans rfl; rw [hB] at this; rw [Addr.add_zero'] at this; exact this
      have z1 : w.cell? ⟨A.block, A.off + 1, none⟩ = some (.int .i64 x.2) := by have := (HA.out.at encL_len hx 1 (by omega)).trans rfl; rw [hA] at this; exact this
      have y1 : w.cell? ⟨B.block, B.off + 1, none⟩ = some (.int .i64 x.2) := by have := (HB.out.at encL_len hx 1 (by omega)).trans rfl; rw [hB] at this; exact this
      have s1 : ((k : Int) < n) := by omega
      have z0 := ex_cell HX.out z0
      have y0 := ex_cell HX.out y0
      have z1 := ex_cell HX.out z1
      have y1 := ex_cell HX.out y1
      have HXd : Hid (Ex w wr.drew) := Lib.hid HX.out.drew
      clear hx
      go_upto_region 6 with fail
      go_big_region
      go_wp2_with fail
      exact ⟨⟨k + 1, by omega, by go_num, HXd⟩, by simp [intOf]; omega⟩
    case neg =>
      have hkn : k = n := by omega
      subst hkn
      go_wp2_with fail
      go_ret
      exact ⟨rfl, HX.out⟩
set_option maxRecDepth 100000 in
theorem equalN_any {w : World} {va vb : Value} {l : List (Ins)} (ha : RdL encN w va l) (hb : RdL encN w vb l) (hl : l.length ≤ 1000000) : Calls Tryz.prog 85 #[va, vb] w fun e w' => e = .returned (.bool true) ∧ Ex w w' := by
  obtain ⟨aa, ac, rfl, -, ha1, -⟩ := id ha
  obtain ⟨ba, bc, rfl, -, hb1, -⟩ := id hb
  have HX0 : Hid (Ex w w) := Lib.hid (Keeps.refl _ w)
  obtain ⟨n, hn⟩ : ∃ n, l.length = n := ⟨_, rfl⟩
  rw [hn] at hl ⊢
  have HA := Lib.hid ha; have HB := Lib.hid hb; have HA1 := Lib.hid ha1; have HB1 := Lib.hid hb1; have Hn := Lib.hid hn
  clear ha hb ha1 hb1 hn
  go_enter Tryz.func85, Tryz.ntmps85
  go_wp2_with fail
  go_loopw [13] (fun s wr => ∃ k : Nat, k ≤ n ∧ s = .int .i64 k ∧ Hid (Ex w wr)) (fun s wr => n - (intOf s).toNat)
  case atStart => exact ⟨0, Nat.zero_le _, rfl, HX0⟩
  case round =>
    obtain ⟨k, hk, rfl, HX⟩ := hrel
    by_cases hlt : k < n
    case pos =>
      obtain ⟨ad, rfl⟩ : ∃ ad, aa = some ad := by
        cases aa with
        | none => have := HA1.out rfl; have h2 := Hn.out; rw [this] at h2; simp at h2; omega
        | some ad => exact ⟨ad, rfl⟩
      obtain ⟨bd, rfl⟩ : ∃ ad, ba = some ad := by
        cases ba with
        | none => have := HB1.out rfl; have h2 := Hn.out; rw [this] at h2; simp at h2; omega
        | some ad => exact ⟨ad, rfl⟩
      obtain ⟨x, hx⟩ : ∃ x, l[k]? = some x := ⟨_, List.getElem?_eq_getElem (by rw [Hn.out]; exact hlt)⟩
      obtain ⟨A, hA⟩ : ∃ A, ad.add (k * 3) = A := ⟨_, rfl⟩
      obtain ⟨B, hB⟩ : ∃ A, bd.add (k * 3) = A := ⟨_, rfl⟩
      have z0 : w.cell? A = some (.int .i64 x.op) := by have := (HA.out.at encN_len hx 0 (by omega)).trans rfl; rw [hA] at this; rw [Addr.add_zero'] at this; exact this
      have y0 : w.cell? B = some (.int .i64 x.op) := by have := (HB.out.at encN_len hx 0 (by omega)).trans rfl; rw [hB] at this; rw [Addr.add_zero'] at this; exact this
      have z1 : w.cell? ⟨A.block, A.off + 1, none⟩ = some (.int .i64 x.a) := by have := (HA.out.at encN_len hx 1 (by omega)).trans rfl; rw [hA] at this; exact this
      have y1 : w.cell? ⟨B.block, B.off + 1, none⟩ = some (.int .i64 x.a) := by have := (HB.out.at encN_len hx 1 (by omega)).trans rfl; rw [hB] at this; exact this
      have z2 : w.cell? ⟨A.block, A.off + 2, none⟩ = some (.int .i64 x.b) := by have := (HA.out.at encN_len hx 2 (by omega)).trans rfl; rw [hA] at this; exact this
      have y2 : w.cell? ⟨B.block, B.off + 2, none⟩ = some (.int .i64 x.b) := by have := (HB.out.at encN_len hx 2 (by omega)).trans rfl; rw [hB] at this; exact this
      have s1 : ((k : Int) < n) := by omega
      have z0 := ex_cell HX.out z0
      have y0 := ex_cell HX.out y0
      have z1 := ex_cell HX.out z1
      have y1 := ex_cell HX.out y1
      have z2 := ex_cell HX.out z2
      have y2 := ex_cell HX.out y2
      have HXd : Hid (Ex w wr.drew) := Lib.hid HX.out.drew
      clear hx
      go_upto_region 6 with fail
      go_big_region
      go_wp2_with fail
      exact ⟨⟨k + 1, by omega, by go_num, HXd⟩, by simp [intOf]; omega⟩
    case neg =>
      have hkn : k = n := by omega
      subst hkn
      go_wp2_with fail
      go_ret
      exact ⟨rfl, HX.out⟩
end Go.Proofs.YtlaepkmnbbgbcaaGreatDoor
/- code.Same's closure: two descriptors that read alike. -/
namespace Go.Proofs.YtlaepkmnbbgbcaaGreatDoor
open Go.RowKit Go.Instr Go.Shelf
set_option linter.unusedVariables false
set_option linter.unusedSimpArgs false

theorem run_eql8 (a b c d e f g h : Int) (w : World) : (binOp .eql 134 (.agg #[.int .i64 a, .int .i64 b, .int .i64 c, .int .i64 d, .int .i64 e, .int .i64 f, .int .i64 g, .int .i64 h]) (.agg #[.int .i64 a, .int .i64 b, .int .i64 c, .int .i64 d, .int .i64 e, .int .i64 f, .int .i64 g, .int .i64 h])).run Tryz.prog w = .ok (.bool true) w := by
  obtain ⟨i, hi⟩ : ∃ i, Tryz.prog.info? 3 = some i := Option.isSome_iff_exists.1 (by kernel_rfl)
  have hc : Tryz.prog.cellsOf 3 = 1 := by kernel_rfl
  rw [run_eql_struct, run_equalIn_array w 9999 _ _ (e := 3) (n := 8) (i := i) (by kernel_rfl) hi, hc]
  show ((Op.eqItems 9999 3 1 _ _ [0, 1, 2, 3, 4, 5, 6, 7]).run Tryz.prog w).andThen _ = _
  simp only [Op.eqItems]
  simp [go_sem]
theorem same1_any {w : World} {x y : DeV} (hd : x.d = y.d) (hx : RdDe w x) (hy : RdDe w y) (hl1 : x.d.chain.length ≤ 1000000) (hl2 : x.d.up.length ≤ 1000000) (hl3 : x.d.virts.length ≤ 1000000) :
    Calls Tryz.prog 78 #[.agg (encD x).toArray, .agg (encD y).toArray] w fun e w' => e = .returned (.bool true) ∧ Ex w w' := by
  obtain ⟨d, v1, v2, v3⟩ := x
  obtain ⟨d', u1, u2, u3⟩ := y
  dsimp only at hd
  subst hd
  obtain ⟨hx1, hx2, hx3⟩ := hx
  obtain ⟨hy1, hy2, hy3⟩ := hy
  dsimp only at hx1 hx2 hx3 hy1 hy2 hy3 hl1 hl2 hl3
  have HA1 : ∀ V, Ex w V → Hid (Calls Tryz.prog 79 #[v1, u1] V fun e w' => e = .returned (.bool true) ∧ Ex V w') := fun V hV => Lib.hid (equalI_any (hx1.ext hV) (hy1.ext hV) hl1)
  have HA2 : ∀ V, Ex w V → Hid (Calls Tryz.prog 79 #[v2, u2] V fun e w' => e = .returned (.bool true) ∧ Ex V w') := fun V hV => Lib.hid (equalI_any (hx2.ext hV) (hy2.ext hV) hl2)
  have HA3 : ∀ V, Ex w V → Hid (Calls Tryz.prog 80 #[v3, u3] V fun e w' => e = .returned (.bool true) ∧ Ex V w') := fun V hV => Lib.hid (equalV_any (hx3.ext hV) (hy3.ext hV) hl3)
  obtain ⟨a1, c1, rfl, -⟩ := id hx1
  obtain ⟨a2, c2, rfl, -⟩ := id hx2
  obtain ⟨a3, c3, rfl, -⟩ := id hx3
  obtain ⟨p1, q1, rfl, -⟩ := id hy1
  obtain ⟨p2, q2, rfl, -⟩ := id hy2
  obtain ⟨p3, q3, rfl, -⟩ := id hy3
  clear hx1 hx2 hx3 hy1 hy2 hy3 hl1 hl2 hl3
  obtain ⟨ar, ch, up, of, ce, vs, i1, i2, i3, i4, i5⟩ := d
  dsimp only at HA1 HA2 HA3 ⊢
  generalize ch.length = n1 at *
  generalize up.length = n2 at *
  generalize vs.length = n3 at *
  unfold encD
  dsimp only
  obtain ⟨W1, hW1⟩ : ∃ W1, w.alloc (.cells #[.int .i64 ar, .slice a1 n1 c1, .slice a2 n2 c2, .int .i64 of, .int .i64 ce, .slice a3 n3 c3, .int .i64 i1, .int .i64 i2, .int .i64 i3, .int .i64 i4, .int .i64 i5] 50) = W1 := ⟨_, rfl⟩
  obtain ⟨b0, hb0⟩ : ∃ b0, w.heap.size = b0 := ⟨_, rfl⟩
  have hX1 : Ex w W1 := by rw [← hW1]; exact (Keeps.refl _ w).alloc _
  have hB1 : Blk W1 b0 #[.int .i64 ar, .slice a1 n1 c1, .slice a2 n2 c2, .int .i64 of, .int .i64 ce, .slice a3 n3 c3, .int .i64 i1, .int .i64 i2, .int .i64 i3, .int .i64 i4, .int .i64 i5] 50 := by rw [← hW1, ← hb0]; exact Blk.new w _ _
  have hs1 : W1.heap.size = b0 + 1 := by rw [← hW1, ← hb0, World.size_alloc]
  obtain ⟨W2, hW2⟩ : ∃ W2, W1.alloc (.cells #[.int .i64 ar, .slice p1 n1 q1, .slice p2 n2 q2, .int .i64 of, .int .i64 ce, .slice p3 n3 q3, .int .i64 i1, .int .i64 i2, .int .i64 i3, .int .i64 i4, .int .i64 i5] 50) = W2 := ⟨_, rfl⟩
  have hX12 : Ex W1 W2 := by rw [← hW2]; exact (Keeps.refl _ W1).alloc _
  have hB2 : Blk W2 (b0 + 1) #[.int .i64 ar, .slice p1 n1 q1, .slice p2 n2 q2, .int .i64 of, .int .i64 ce, .slice p3 n3 q3, .int .i64 i1, .int .i64 i2, .int .i64 i3, .int .i64 i4, .int .i64 i5] 50 := by rw [← hW2, ← hs1]; exact Blk.new W1 _ _
  have hB1' := hX12.blk hB1 id
  have HX2 := Lib.hid (hX1.trans hX12)
  have HF1 : ∀ V, Ex W2 V → Hid (∀ (j : Nat), V.cell? ⟨b0, j, none⟩ = #[(.int .i64 ar : Value), .slice a1 n1 c1, .slice a2 n2 c2, .int .i64 of, .int .i64 ce, .slice a3 n3 c3, .int .i64 i1, .int .i64 i2, .int .i64 i3, .int .i64 i4, .int .i64 i5][j]?) := fun V hV => Lib.hid fun j => (hV.blk hB1' id).cell j
  have HF2 : ∀ V, Ex W2 V → Hid (∀ (j : Nat), V.cell? ⟨b0 + 1, j, none⟩ = #[(.int .i64 ar : Value), .slice p1 n1 q1, .slice p2 n2 q2, .int .i64 of, .int .i64 ce, .slice p3 n3 q3, .int .i64 i1, .int .i64 i2, .int .i64 i3, .int .i64 i4, .int .i64 i5][j]?) := fun V hV => Lib.hid fun j => (hV.blk hB2 id).cell j
  have HW1 := Lib.hid hW1; have HW2 := Lib.hid hW2; have Hb0 := Lib.hid hb0; have Hs1 := Lib.hid hs1
  clear hX1 hX12 hB1 hB2 hB1' hW1 hW2 hb0 hs1
  go_enter Tryz.func78, Tryz.ntmps78
  go_upto_region 1 with fail
  rw [HW1.out, Hb0.out]
  try rw [HW2.out]
  try rw [Hs1.out]
  have x1 := ((HF1 W2 (Keeps.refl _ _)).out 1).trans rfl
  have x2 := ((HF1 W2 (Keeps.refl _ _)).out 2).trans rfl
  have x5 := ((HF1 W2 (Keeps.refl _ _)).out 5).trans rfl
  have y1 := ((HF2 W2 (Keeps.refl _ _)).out 1).trans rfl
  have y2 := ((HF2 W2 (Keeps.refl _ _)).out 2).trans rfl
  have y5 := ((HF2 W2 (Keeps.refl _ _)).out 5).trans rfl
  go_wp2_with fail
  refine (HA1 _ HX2.out).out.mono ?_
  rintro e w3 ⟨rfl, hx3⟩
  have HX3 := Lib.hid hx3
  clear hx3 x1 x2 x5 y1 y2 y5
  have x2 := ((HF1 w3 HX3.out).out 2).trans rfl
  have y2 := ((HF2 w3 HX3.out).out 2).trans rfl
  go_wp2_with fail
  refine (HA2 _ (HX2.out.trans HX3.out)).out.mono ?_
  rintro e w4 ⟨rfl, hx4⟩
  have HX4 := Lib.hid (HX3.out.trans hx4)
  clear hx4 x2 y2
  have x5 := ((HF1 w4 HX4.out).out 5).trans rfl
  have y5 := ((HF2 w4 HX4.out).out 5).trans rfl
  go_wp2_with fail
  refine (HA3 _ (HX2.out.trans HX4.out)).out.mono ?_
  rintro e w5 ⟨rfl, hx5⟩
  have HX5 := Lib.hid (HX4.out.trans hx5)
  clear hx5 x5 y5
  have x0 := ((HF1 w5 HX5.out).out 0).trans rfl
  have x3 := ((HF1 w5 HX5.out).out 3).trans rfl
  have x4 := ((HF1 w5 HX5.out).out 4).trans rfl
  have x6 := ((HF1 w5 HX5.out).out 6).trans rfl
  have x7 := ((HF1 w5 HX5.out).out 7).trans rfl
  have x8 := ((HF1 w5 HX5.out).out 8).trans rfl
  have x9 := ((HF1 w5 HX5.out).out 9).trans rfl
  have x10 := ((HF1 w5 HX5.out).out 10).trans rfl
  have y0 := ((HF2 w5 HX5.out).out 0).trans rfl
  have y3 := ((HF2 w5 HX5.out).out 3).trans rfl
  have y4 := ((HF2 w5 HX5.out).out 4).trans rfl
  have y6 := ((HF2 w5 HX5.out).out 6).trans rfl
  have y7 := ((HF2 w5 HX5.out).out 7).trans rfl
  have y8 := ((HF2 w5 HX5.out).out 8).trans rfl
  have y9 := ((HF2 w5 HX5.out).out 9).trans rfl
  have y10 := ((HF2 w5 HX5.out).out 10).trans rfl
  have q8 := run_eql8 ar of ce i1 i2 i3 i4 i5
  go_wp2_with fail
  go_ret
  exact ⟨rfl, HX2.out.trans HX5.out⟩
end Go.Proofs.YtlaepkmnbbgbcaaGreatDoor
/- slices.EqualFunc with Same's closure. -/
namespace Go.Proofs.YtlaepkmnbbgbcaaGreatDoor
open Go.RowKit Go.Instr Go.Shelf
set_option linter.unusedVariables false
set_option linter.unusedSimpArgs false

set_option maxRecDepth 100000 in
set_option maxHeartbeats 4000000 in
theorem equalF_any {w : World} {va vb : Value} {xs ys : List DeV} (ha : RdL encD w va xs) (hb : RdL encD w vb ys) (he : xs.map (·.d) = ys.map (·.d)) (hx : ∀ x ∈ xs, RdDe w x) (hy : ∀ y ∈ ys, RdDe w y)
    (hl : xs.length ≤ 1000000) (hll : ∀ x ∈ xs, x.d.chain.length ≤ 1000000 ∧ x.d.up.length ≤ 1000000 ∧ x.d.virts.length ≤ 1000000) :
    Calls Tryz.prog 81 #[va, vb, .func (.func 78) #[] #[]] w fun e w' => e = .returned (.bool true) ∧ Ex w w' := by
  obtain ⟨aa, ac, rfl, -, ha1, -⟩ := id ha
  obtain ⟨ba, bc, rfl, -, hb1, -⟩ := id hb
  have HX0 : Hid (Ex w w) := Lib.hid (Keeps.refl _ w)
  have hlen : ys.length = xs.length := by have := congrArg List.length he; simpa using this.symm
  rw [hlen] at hb ⊢
  obtain ⟨n, hn⟩ : ∃ n, xs.length = n := ⟨_, rfl⟩
  rw [hn] at hl ha hb hlen ⊢
  have HA := Lib.hid ha; have HB := Lib.hid hb; have HA1 := Lib.hid ha1; have HB1 := Lib.hid hb1; have Hn := Lib.hid hn; have Hlen := Lib.hid hlen; have HE := Lib.hid he; have HDx := Lib.hid hx; have HDy := Lib.hid hy; have HLL := Lib.hid hll
  clear ha hb ha1 hb1 hn hlen he hx hy hll
  go_enter Tryz.func81, Tryz.ntmps81
  go_wp2_with fail
  go_loopw [17] (fun s wr => ∃ k : Nat, k ≤ n ∧ s = .int .i64 k ∧ Hid (Ex w wr)) (fun s wr => n - (intOf s).toNat)
  case atStart => exact ⟨0, Nat.zero_le _, rfl, HX0⟩
  case round =>
    obtain ⟨k, hk, rfl, HX⟩ := hrel
    by_cases hlt : k < n
    case pos =>
      obtain ⟨ad, rfl⟩ : ∃ ad, aa = some ad := by
        cases aa with
        | none => have := HA1.out rfl; have h2 := Hn.out; rw [this] at h2; simp at h2; omega
        | some ad => exact ⟨ad, rfl⟩
      obtain ⟨bd, rfl⟩ : ∃ ad, ba = some ad := by
        cases ba with
        | none => have := HB1.out rfl; have h2 := Hlen.out; rw [this] at h2; simp at h2; omega
        | some ad => exact ⟨ad, rfl⟩
      obtain ⟨x, hx⟩ : ∃ x, xs[k]? = some x := ⟨_, List.getElem?_eq_getElem (by rw [Hn.out]; exact hlt)⟩
      obtain ⟨y, hy⟩ : ∃ y, ys[k]? = some y := ⟨_, List.getElem?_eq_getElem (by rw [Hlen.out]; exact hlt)⟩
      have hxy : x.d = y.d := by
        have := congrArg (·[k]?) HE.out
        simp only [List.getElem?_map, hx, hy, Option.map_some, Option.some.injEq] at this
        exact this
      have hDx := HDx.out x (List.mem_of_getElem? hx)
      have hDy := HDy.out y (List.mem_of_getElem? hy)
      have hLx := HLL.out x (List.mem_of_getElem? hx)
      obtain ⟨A, hA⟩ : ∃ A, ad.add (k * 11) = A := ⟨_, rfl⟩
      obtain ⟨B, hB⟩ : ∃ A, bd.add (k * 11) = A := ⟨_, rfl⟩
      obtain ⟨W4, hW4⟩ : ∃ W4, wr.alloc (.cells (encD x).toArray 50) = W4 := ⟨_, rfl⟩
      obtain ⟨b4, hb4⟩ : ∃ b4, wr.heap.size = b4 := ⟨_, rfl⟩
      have hX4 : Ex wr W4 := by rw [← hW4]; exact (Keeps.refl _ wr).alloc _
      have hB4 : Blk W4 b4 (encD x).toArray 50 := by rw [← hW4, ← hb4]; exact Blk.new wr _ _
      have hs4 : W4.heap.size = b4 + 1 := by rw [← hW4, World.size_alloc, hb4]
      obtain ⟨W5, hW5⟩ : ∃ W5, W4.alloc (.cells (encD y).toArray 50) = W5 := ⟨_, rfl⟩
      have hX5 : Ex W4 W5 := by rw [← hW5]; exact (Keeps.refl _ W4).alloc _
      have hB5 : Blk W5 (b4 + 1) (encD y).toArray 50 := by rw [← hW5, ← hs4]; exact Blk.new W4 _ _
      have hB45 := hX5.blk hB4 id
      have HCall := Lib.hid (same1_any hxy (hDx.ext (HX.out.trans (hX4.trans hX5))) (hDy.ext (HX.out.trans (hX4.trans hX5))) hLx.1 hLx.2.1 hLx.2.2)
      obtain ⟨e0, e1, e2, e3, e4, e5, e6, e7, e8, e9, e10⟩ := (HA.out.ext HX.out).deCells hx hA
      have hBd : RdL encD W4 (.slice (some bd) n bc) ys := HB.out.ext (HX.out.trans hX4)
      obtain ⟨f0, f1, f2, f3, f4, f5, f6, f7, f8, f9, f10⟩ := hBd.deCells hy hB
      have HXn := Lib.hid (HX.out.trans (hX4.trans hX5))
      obtain ⟨dx, cx, ux, vx⟩ := x
      obtain ⟨dy, cy, uy, vy⟩ := y
      dsimp only at hxy
      subst hxy
      obtain ⟨ca, cc, ec, -⟩ := id hDx.chain
      obtain ⟨ua, uc, eu, -⟩ := id hDx.up
      obtain ⟨va, vc, ev, -⟩ := id hDx.virts
      obtain ⟨ca2, cc2, ec2, -⟩ := id hDy.chain
      obtain ⟨ua2, uc2, eu2, -⟩ := id hDy.up
      obtain ⟨va2, vc2, ev2, -⟩ := id hDy.virts
      dsimp only at ec eu ev ec2 eu2 ev2
      subst ec; subst eu; subst ev; subst ec2; subst eu2; subst ev2
      clear hDx hDy hLx hx hy hBd
      obtain ⟨ar, ch, up, of, ce, vs, i1, i2, i3, i4, i5⟩ := dx
      dsimp only [encD] at *
      generalize ch.length = n1 at *
      generalize up.length = n2 at *
      generalize vs.length = n3 at *
      have g4 : ∀ j : Nat, W5.cell? ⟨b4, j, none⟩ = #[(.int .i64 ar : Value), .slice ca n1 cc, .slice ua n2 uc, .int .i64 of, .int .i64 ce, .slice va n3 vc, .int .i64 i1, .int .i64 i2, .int .i64 i3, .int .i64 i4, .int .i64 i5][j]? := hB45.cell
      have g5 : ∀ j : Nat, W5.cell? ⟨b4 + 1, j, none⟩ = #[(.int .i64 ar : Value), .slice ca2 n1 cc2, .slice ua2 n2 uc2, .int .i64 of, .int .i64 ce, .slice va2 n3 vc2, .int .i64 i1, .int .i64 i2, .int .i64 i3, .int .i64 i4, .int .i64 i5][j]? := hB5.cell
      have G4 := Lib.hid g4; have G5 := Lib.hid g5; have HW4 := Lib.hid hW4; have HW5 := Lib.hid hW5; have Hb4 := Lib.hid hb4; have Hs4 := Lib.hid hs4
      clear g4 g5 hB4 hB5 hB45 hW4 hW5 hb4 hs4 hX4 hX5
      go_upto_region 6 with fail
      rw [HW4.out]
      try rw [Hb4.out]
      clear e0 e1 e2 e3 e4 e5 e6 e7 e8 e9 e10
      go_upto_region 7 with fail
      rw [HW5.out]
      try rw [Hs4.out]
      clear f0 f1 f2 f3 f4 f5 f6 f7 f8 f9 f10
      have e0 := (G4.out 0).trans rfl
      have e1 := (G4.out 1).trans rfl
      have e2 := (G4.out 2).trans rfl
      have e3 := (G4.out 3).trans rfl
      have e4 := (G4.out 4).trans rfl
      have e5 := (G4.out 5).trans rfl
      have e6 := (G4.out 6).trans rfl
      have e7 := (G4.out 7).trans rfl
      have e8 := (G4.out 8).trans rfl
      have e9 := (G4.out 9).trans rfl
      have e10 := (G4.out 10).trans rfl
      have f0 := (G5.out 0).trans rfl
      have f1 := (G5.out 1).trans rfl
      have f2 := (G5.out 2).trans rfl
      have f3 := (G5.out 3).trans rfl
      have f4 := (G5.out 4).trans rfl
      have f5 := (G5.out 5).trans rfl
      have f6 := (G5.out 6).trans rfl
      have f7 := (G5.out 7).trans rfl
      have f8 := (G5.out 8).trans rfl
      have f9 := (G5.out 9).trans rfl
      have f10 := (G5.out 10).trans rfl
      go_wp2_with fail
      refine HCall.out.mono ?_
      rintro e w6 ⟨rfl, hx6⟩
      have HX6 := Lib.hid (HXn.out.trans hx6)
      clear hx6 e0 e1 e2 e3 e4 e5 e6 e7 e8 e9 e10 f0 f1 f2 f3 f4 f5 f6 f7 f8 f9 f10
      go_wp2_with fail
      exact ⟨⟨k + 1, by omega, by go_num, HX6⟩, by simp [intOf]; omega⟩
    case neg =>
      have hkn : k = n := by omega
      subst hkn
      go_wp2_with fail
      go_ret
      exact ⟨rfl, HX.out⟩
end Go.Proofs.YtlaepkmnbbgbcaaGreatDoor
/- code.Same returns true for two codes that read alike. -/
namespace Go.Proofs.YtlaepkmnbbgbcaaGreatDoor
open Go.RowKit Go.Instr Go.Shelf
set_option linter.unusedVariables false
set_option linter.unusedSimpArgs false

set_option maxRecDepth 100000 in
set_option maxHeartbeats 4000000 in
theorem Same_any {w : World} {dv lv tv rv iv ev mv uv sv jv : Value} {c : Co} {xs ys : List DeV} (h : RdCo w dv lv tv rv iv c xs) (h' : RdCo w ev mv uv sv jv c ys) (hb : Big c) :
    Calls Tryz.prog 28 #[codeV dv lv tv rv iv, codeV ev mv uv sv jv] w fun e w' => e = .returned (.bool true) ∧ Ex w w' := by
  have he : xs.map (·.d) = ys.map (·.d) := h.eq.trans h'.eq.symm
  have hll : ∀ x ∈ xs, x.d.chain.length ≤ 1000000 ∧ x.d.up.length ≤ 1000000 ∧ x.d.virts.length ≤ 1000000 := fun x hx => hb.e x.d (by rw [← h.eq]; exact List.mem_map_of_mem hx)
  have hxl : xs.length ≤ 1000000 := by have := hb.d; rw [h.len]; exact this
  have HA1 : ∀ V, Ex w V → Hid (Calls Tryz.prog 81 #[dv, ev, .func (.func 78) #[] #[]] V fun e w' => e = .returned (.bool true) ∧ Ex V w') := fun V hV => Lib.hid (equalF_any (h.ds.ext hV) (h'.ds.ext hV) he (fun x hx => (h.de x hx).ext hV) (fun x hx => (h'.de x hx).ext hV) hxl hll)
  have HA2 : ∀ V, Ex w V → Hid (Calls Tryz.prog 82 #[lv, mv] V fun e w' => e = .returned (.bool true) ∧ Ex V w') := fun V hV => Lib.hid (equalL_any (h.ls.ext hV) (h'.ls.ext hV) hb.l)
  have HA3 : ∀ V, Ex w V → Hid (Calls Tryz.prog 83 #[tv, uv] V fun e w' => e = .returned (.bool true) ∧ Ex V w') := fun V hV => Lib.hid (equalS_any (h.ts.ext hV) (h'.ts.ext hV) hb.t)
  have HA4 : ∀ V, Ex w V → Hid (Calls Tryz.prog 84 #[rv, sv] V fun e w' => e = .returned (.bool true) ∧ Ex V w') := fun V hV => Lib.hid (equalR_any (h.rs.ext hV) (h'.rs.ext hV) hb.r)
  have HA5 : ∀ V, Ex w V → Hid (Calls Tryz.prog 85 #[iv, jv] V fun e w' => e = .returned (.bool true) ∧ Ex V w') := fun V hV => Lib.hid (equalN_any (h.is.ext hV) (h'.is.ext hV) hb.i)
  obtain ⟨a1, c1, rfl, -⟩ := id h.ds
  obtain ⟨a2, c2, rfl, -⟩ := id h.ls
  obtain ⟨a3, c3, rfl, -⟩ := id h.ts
  obtain ⟨a4, c4, rfl, -⟩ := id h.rs
  obtain ⟨a5, c5, rfl, -⟩ := id h.is
  obtain ⟨p1, q1, rfl, -⟩ := id h'.ds
  obtain ⟨p2, q2, rfl, -⟩ := id h'.ls
  obtain ⟨p3, q3, rfl, -⟩ := id h'.ts
  obtain ⟨p4, q4, rfl, -⟩ := id h'.rs
  obtain ⟨p5, q5, rfl, -⟩ := id h'.is
  have hl2 : ys.length = xs.length := by rw [h.len, h'.len]
  rw [hl2] at HA1 ⊢
  clear h h' hb he hll hxl hl2
  generalize xs.length = n1 at *
  generalize c.labels.length = n2 at *
  generalize c.texts.length = n3 at *
  generalize c.reals.length = n4 at *
  generalize c.instrs.length = n5 at *
  unfold codeV
  obtain ⟨W1, hW1⟩ : ∃ W1, w.alloc (.cells #[.slice a1 n1 c1, .slice a2 n2 c2, .slice a3 n3 c3, .slice a4 n4 c4, .slice a5 n5 c5] 28) = W1 := ⟨_, rfl⟩
  obtain ⟨b0, hb0⟩ : ∃ b0, w.heap.size = b0 := ⟨_, rfl⟩
  have hX1 : Ex w W1 := by rw [← hW1]; exact (Keeps.refl _ w).alloc _
  have hB1 : Blk W1 b0 #[.slice a1 n1 c1, .slice a2 n2 c2, .slice a3 n3 c3, .slice a4 n4 c4, .slice a5 n5 c5] 28 := by rw [← hW1, ← hb0]; exact Blk.new w _ _
  have hs1 : W1.heap.size = b0 + 1 := by rw [← hW1, ← hb0, World.size_alloc]
  obtain ⟨W2, hW2⟩ : ∃ W2, W1.alloc (.cells #[.slice p1 n1 q1, .slice p2 n2 q2, .slice p3 n3 q3, .slice p4 n4 q4, .slice p5 n5 q5] 28) = W2 := ⟨_, rfl⟩
  have hX12 : Ex W1 W2 := by rw [← hW2]; exact (Keeps.refl _ W1).alloc _
  have hB2 : Blk W2 (b0 + 1) #[.slice p1 n1 q1, .slice p2 n2 q2, .slice p3 n3 q3, .slice p4 n4 q4, .slice p5 n5 q5] 28 := by rw [← hW2, ← hs1]; exact Blk.new W1 _ _
  have hB1' := hX12.blk hB1 id
  have HX2 := Lib.hid (hX1.trans hX12)
  have HF1 : ∀ V, Ex W2 V → Hid (∀ (j : Nat), V.cell? ⟨b0, j, none⟩ = #[(.slice a1 n1 c1 : Value), .slice a2 n2 c2, .slice a3 n3 c3, .slice a4 n4 c4, .slice a5 n5 c5][j]?) := fun V hV => Lib.hid fun j => (hV.blk hB1' id).cell j
  have HF2 : ∀ V, Ex W2 V → Hid (∀ (j : Nat), V.cell? ⟨b0 + 1, j, none⟩ = #[(.slice p1 n1 q1 : Value), .slice p2 n2 q2, .slice p3 n3 q3, .slice p4 n4 q4, .slice p5 n5 q5][j]?) := fun V hV => Lib.hid fun j => (hV.blk hB2 id).cell j
  have HW1 := Lib.hid hW1; have HW2 := Lib.hid hW2; have Hb0 := Lib.hid hb0; have Hs1 := Lib.hid hs1
  clear hX1 hX12 hB1 hB2 hB1' hW1 hW2 hb0 hs1
  go_enter Tryz.func28, Tryz.ntmps28
  go_upto_region 2 with fail
  rw [HW1.out, Hb0.out]
  try rw [HW2.out]
  try rw [Hs1.out]
  have x := ((HF1 W2 (Keeps.refl _ _)).out 0).trans rfl
  have y := ((HF2 W2 (Keeps.refl _ _)).out 0).trans rfl
  go_wp2_with fail
  refine (HA1 _ HX2.out).out.mono ?_
  rintro e w3 ⟨rfl, hx3⟩
  have HX3 := Lib.hid hx3
  clear hx3 x y
  have x := ((HF1 w3 HX3.out).out 1).trans rfl
  have y := ((HF2 w3 HX3.out).out 1).trans rfl
  go_wp2_with fail
  refine (HA2 _ (HX2.out.trans HX3.out)).out.mono ?_
  rintro e w4 ⟨rfl, hx4⟩
  have HX4 := Lib.hid (HX3.out.trans hx4)
  clear hx4 x y
  have x := ((HF1 w4 HX4.out).out 2).trans rfl
  have y := ((HF2 w4 HX4.out).out 2).trans rfl
  go_wp2_with fail
  refine (HA3 _ (HX2.out.trans HX4.out)).out.mono ?_
  rintro e w5 ⟨rfl, hx5⟩
  have HX5 := Lib.hid (HX4.out.trans hx5)
  clear hx5 x y
  have x := ((HF1 w5 HX5.out).out 3).trans rfl
  have y := ((HF2 w5 HX5.out).out 3).trans rfl
  go_wp2_with fail
  refine (HA4 _ (HX2.out.trans HX5.out)).out.mono ?_
  rintro e w6 ⟨rfl, hx6⟩
  have HX6 := Lib.hid (HX5.out.trans hx6)
  clear hx6 x y
  have x := ((HF1 w6 HX6.out).out 4).trans rfl
  have y := ((HF2 w6 HX6.out).out 4).trans rfl
  go_wp2_with fail
  refine (HA5 _ (HX2.out.trans HX6.out)).out.mono ?_
  rintro e w7 ⟨rfl, hx7⟩
  have HX7 := Lib.hid (HX2.out.trans (HX6.out.trans hx7))
  clear hx7 x y
  go_wp2_with fail
  go_ret
  exact ⟨rfl, HX7.out⟩
end Go.Proofs.YtlaepkmnbbgbcaaGreatDoor
