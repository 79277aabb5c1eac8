/- The reference's checks of strings: Printed, and Valid of numbers. (Written by wip/tools/genYB.py.) The reference's chained. The digits of a number, the last one first. -/
import Derived.Test.YtlaepkmnbbgbcaaGreatDoorGS1
import Derived.Test.YtlaepkmnbbgbcaaGreatDoorGB4
/- The reference's checks of strings: Printed, and Valid of numbers. (Written by wip/tools/genYB.py.) -/
namespace Go.Proofs.YtlaepkmnbbgbcaaGreatDoor
open Go.RowKit Go.Instr Go.Shelf
set_option linter.unusedVariables false
set_option linter.unusedSimpArgs false
attribute [local go_sem] Oper.semAt_some

theorem str_get {s : ByteArray} {k : Nat} {b : UInt8} (hk : k < s.size) (h : s[k] = b) : s.data.toList[k]? = some b := by
  subst h
  have hk2 : k < s.data.size := hk
  rw [Array.getElem?_toList, Array.getElem?_eq_getElem hk2]; rfl
theorem str_take {s : ByteArray} {k : Nat} {b : UInt8} {p : UInt8 → Bool} (hk : k < s.size) (h : s[k] = b) (ha : (s.data.toList.take k).all p = true) (hb : p b = true) : (s.data.toList.take (k + 1)).all p = true := by
  rw [List.take_add_one, str_get hk h, List.all_append, ha]; simp [hb]
theorem str_all {s : ByteArray} {p : UInt8 → Bool} (ha : (s.data.toList.take s.size).all p = true) : s.data.toList.all p = true := by
  rwa [← bytes_len, List.take_length] at ha
theorem str_bad {s : ByteArray} {k : Nat} {b : UInt8} {p : UInt8 → Bool} (hk : k < s.size) (h : s[k] = b) (hb : p b = false) : s.data.toList.all p = false := by
  rw [List.all_eq_false]
  exact ⟨b, List.mem_of_getElem? (str_get hk h), by rw [hb]; exact Bool.false_ne_true⟩
def prP (b : UInt8) : Bool := decide (32 ≤ b.toNat) && decide (b.toNat ≤ 126)
theorem plainB_pr (s : ByteArray) : plainB s = (decide (s.size ≤ 2000) && s.data.toList.all prP) := rfl
def dgP (b : UInt8) : Bool := decide (48 ≤ b.toNat) && decide (b.toNat ≤ 57)
/-- Digits, as the reference asks. -/
def tlB (d : List UInt8) : Bool := decide (1 ≤ d.length) && decide (d.length ≤ 200) && !(decide (d.head? = some 48) && decide (1 < d.length)) && d.all dgP
theorem intB_plain {s : ByteArray} (h : s.data.toList.head? ≠ some 45) : intB s = tlB s.data.toList := by
  have ht : trimMinus s.data.toList = s.data.toList := by
    cases hl : s.data.toList with
    | nil => rfl
    | cons b r => rw [hl] at h; show (if b = 45 then r else b :: r) = b :: r; rw [if_neg (by intro e; apply h; rw [e]; rfl)]
  unfold intB
  rw [ht]
  generalize s.data.toList = l at *
  unfold tlB
  rw [Bool.eq_iff_iff]
  simp only [Bool.and_eq_true, decide_eq_true_eq, Bool.not_eq_true', Bool.and_eq_false_iff, decide_eq_false_iff_not, List.isEmpty_eq_false_iff, bne_iff_ne, ne_eq, beq_iff_eq, beq_eq_false_iff_ne]
  refine and_congr (and_congr (and_congr ?_ Iff.rfl) ?_) Iff.rfl
  · cases l <;> simp
  · cases l with
    | nil => simp
    | cons b r =>
      cases r with
      | nil => simp; exact (Classical.em _).symm
      | cons _ _ => simp
theorem intB_minus {s : ByteArray} {r : List UInt8} (h : s.data.toList = 45 :: r) (hr : r ≠ [48]) : intB s = tlB r := by
  have ht : trimMinus (45 :: r) = r := by show (if (45 : UInt8) = 45 then r else 45 :: r) = r; rw [if_pos rfl]
  unfold intB
  rw [h, ht]
  unfold tlB
  rw [Bool.eq_iff_iff]
  simp only [Bool.and_eq_true, decide_eq_true_eq, Bool.not_eq_true', Bool.and_eq_false_iff, decide_eq_false_iff_not, List.isEmpty_eq_false_iff, bne_iff_ne, ne_eq, beq_iff_eq, beq_eq_false_iff_ne]
  refine and_congr (and_congr (and_congr ?_ Iff.rfl) ?_) Iff.rfl
  · cases r <;> simp
  · cases r with
    | nil => simp
    | cons b q =>
      cases q with
      | nil => simp; intro e; apply hr; rw [e]
      | cons _ _ => simp
theorem intB_minus0 {s : ByteArray} (h : s.data.toList = [45, 48]) : intB s = false := by
  unfold intB; rw [h]; rfl
set_option maxRecDepth 100000 in
set_option maxHeartbeats 2000000 in
theorem printed_any {w : World} (s : ByteArray) (hs : s.size ≤ 1000000) : Calls Tryz.prog 75 #[.string s] w fun e w' => e = .returned (.bool (plainB s)) ∧ Ex w w' := by
  have HX0 : Hid (Ex w w) := Lib.hid (Keeps.refl _ w)
  generalize hM : (fun (e : Ending) (w' : World) => e = .returned (.bool (plainB s)) ∧ Ex w w') = M
  have HM := Lib.hid hM
  clear hM
  go_enter Tryz.func75, Tryz.ntmps75
  go_wp2_with fail
  go_loopw [3] (fun i wr => ∃ k : Nat, k ≤ s.size ∧ i = .int .i64 k ∧ Hid (Ex w wr) ∧ Hid ((s.data.toList.take k).all prP = true)) (fun i wr => s.size - (intOf i).toNat)
  case atStart => exact ⟨0, Nat.zero_le _, rfl, HX0, Lib.hid rfl⟩
  case round =>
    obtain ⟨k, hk, rfl, HX, HA⟩ := hrel
    by_cases hlt : k < s.size
    case pos =>
      have hlk : ((k : Int) < s.size) := by omega
      obtain ⟨b, hb⟩ : ∃ b, s[k]'hlt = b := ⟨_, rfl⟩
      have Hb := Lib.hid hb
      by_cases k1 : ((b.toNat : Nat) : Int) < 32
      · have HN : Hid (plainB s = false) := Lib.hid (by rw [plainB_pr, str_bad (p := prP) hlt Hb.out (by unfold prP; rw [decide_eq_false (by omega), Bool.false_and]), Bool.and_false])
        go_wp2_with fail
        rw [← HM.out]
        exact ⟨by rw [HN.out] <;> rfl, HX.out⟩
      by_cases k2 : ((b.toNat : Nat) : Int) > 126
      · have HN : Hid (plainB s = false) := Lib.hid (by rw [plainB_pr, str_bad (p := prP) hlt Hb.out (by unfold prP; rw [decide_eq_false (p := b.toNat ≤ 126) (by omega), Bool.and_false]), Bool.and_false])
        go_wp2_with fail
        rw [← HM.out]
        exact ⟨by rw [HN.out] <;> rfl, HX.out⟩
      have HA2 : Hid ((s.data.toList.take (k + 1)).all prP = true) := Lib.hid (str_take hlt Hb.out HA.out (by unfold prP; rw [decide_eq_true (by omega), decide_eq_true (by omega)]; rfl))
      go_wp2_with fail
      go_roundw
      case rel => exact ⟨k + 1, by omega, by go_num, HX, HA2⟩
      case measure => simp [intOf]; omega
    case neg =>
      have : k = s.size := by omega
      subst this
      have HN : Hid (plainB s = decide ((s.size : Int) ≤ 2000)) := Lib.hid (by
        rw [plainB_pr, str_all HA.out, Bool.and_true, Bool.eq_iff_iff, decide_eq_true_eq, decide_eq_true_eq]; omega)
      go_wp2_with fail
      rw [← HM.out]
      exact ⟨by rw [HN.out] <;> rfl, HX.out⟩
theorem tl_bad {d : List UInt8} (h : d.all dgP = false) : tlB d = false := by unfold tlB; rw [h, Bool.and_false]
theorem tl_zero {d : List UInt8} (h : d.head? = some 48) (h1 : ¬ d.length ≤ 1) : tlB d = false := by
  unfold tlB; rw [decide_eq_true h, decide_eq_true (by omega : 1 < d.length)]; simp
theorem tl_ok {d : List UInt8} {n : Nat} (hd : d.length = n) (hn : 1 ≤ n) (h2 : n ≤ 200) (h3 : n ≤ 1 ∨ d.head? ≠ some 48) (h : d.all dgP = true) : tlB d = true := by
  unfold tlB
  rw [h, decide_eq_true (by omega : 1 ≤ d.length), decide_eq_true (by omega : d.length ≤ 200)]
  rcases h3 with h3 | h3
  · rw [decide_eq_false (by omega : ¬ 1 < d.length)]; simp
  · rw [decide_eq_false h3]; rfl
theorem cut_one (s : ByteArray) : (s.extract 1 s.size).data.toList = s.data.toList.drop 1 := by
  have : (s.extract 1 s.size).data = s.data.extract 1 s.size := ByteArray.data_extract
  rw [this, Array.toList_extract]
  simp [List.extract]
  exact List.take_of_length_le (by simp [bytes_len])
set_option maxRecDepth 100000 in
set_option maxHeartbeats 4000000 in
theorem rvalid_any {w : World} (s : ByteArray) (hs : s.size ≤ 1000000) : Calls Tryz.prog 157 #[.string s] w fun e w' => e = .returned (.bool (intB s)) ∧ Ex w w' := by
  have HX0 : Hid (Ex w w) := Lib.hid (Keeps.refl _ w)
  generalize hB : intB s = B
  generalize hM : (fun (e : Ending) (w' : World) => e = .returned (.bool B) ∧ Ex w w') = M
  have HM := Lib.hid hM
  clear hM
  by_cases e0 : s.size = 0
  · have HN : Hid (B = false) := Lib.hid (by
      have h0 : s.data.toList = [] := List.eq_nil_of_length_eq_zero (by rw [bytes_len]; exact e0)
      rw [← hB]; unfold intB; rw [h0]; rfl)
    clear hB
    have e1 : ¬ (0 : Int) < s.size := by omega
    have e2 : (s.size : Int) < 1 := by omega
    go_enter Tryz.func157, Tryz.ntmps157
    go_wp2_with fail
    rw [← HM.out]
    exact ⟨by rw [HN.out] <;> rfl, HX0.out⟩
  have e3 : 0 < s.size := by omega
  have e4 : (0 : Int) < s.size := by omega
  obtain ⟨m, hm⟩ : ∃ b, s[0]'e3 = b := ⟨_, rfl⟩
  have hm2 : s.data.toList.head? = some m := by rw [List.head?_eq_getElem?]; exact str_get e3 hm
  by_cases e5 : m = 45
  case pos =>
    subst e5
    have hdr : s.data.toList = 45 :: (s.extract 1 s.size).data.toList := by
      rw [cut_one]
      cases hl : s.data.toList with
      | nil => rw [hl] at hm2; cases hm2
      | cons b r => rw [hl] at hm2; simp at hm2; rw [hm2]; rfl
    obtain ⟨T, hT⟩ : ∃ T, s.extract 1 s.size = T := ⟨_, rfl⟩
    rw [hT] at hdr
    have hTs : T.size ≤ 1000000 := by
      have := congrArg List.length hdr
      rw [List.length_cons, bytes_len, bytes_len] at this; omega
    by_cases e6 : T.data.toList = [48]
    · have HN : Hid (B = false) := Lib.hid (by rw [← hB]; exact intB_minus0 (by rw [hdr, e6]))
      have q : (T.toList == [48]) = true := by rw [ByteArray.toList_eq, e6]; rfl
      clear hB hdr hm2 e6
      go_enter Tryz.func157, Tryz.ntmps157
      go_wp2_with fail
      rw [← HM.out]
      exact ⟨by rw [HN.out] <;> rfl, HX0.out⟩
    have HT : Hid (B = tlB T.data.toList) := Lib.hid (by rw [← hB]; exact intB_minus hdr e6)
    have q : (T.toList == [48]) = false := by rw [ByteArray.toList_eq, beq_eq_false_iff_ne]; exact e6
    clear hB hdr hm2 e6
    go_enter Tryz.func157, Tryz.ntmps157
    go_upto_region 5 with fail
    clear q hT hm e3 e4
    by_cases c1 : (T.size : Int) < 1
    · have HN : Hid (B = false) := Lib.hid (by rw [HT.out]; unfold tlB; rw [bytes_len, decide_eq_false (by omega)]; rfl)
      go_wp2_with fail
      rw [← HM.out]
      exact ⟨by rw [HN.out] <;> rfl, HX0.out⟩
    by_cases c2 : (T.size : Int) > 200
    · have HN : Hid (B = false) := Lib.hid (by rw [HT.out]; unfold tlB; rw [bytes_len, decide_eq_false (p := T.size ≤ 200) (by omega), Bool.and_false]; rfl)
      go_wp2_with fail
      rw [← HM.out]
      exact ⟨by rw [HN.out] <;> rfl, HX0.out⟩
    have c3 : 0 < T.size := by omega
    obtain ⟨b0, hb0⟩ : ∃ b, T[0]'c3 = b := ⟨_, rfl⟩
    have Hb0 := Lib.hid hb0
    by_cases c4 : b0 = 48
    · subst c4
      by_cases c5 : (T.size : Int) > 1
      · have HN : Hid (B = false) := Lib.hid (by rw [HT.out]; exact tl_zero (by rw [List.head?_eq_getElem?]; exact str_get c3 Hb0.out) (by rw [bytes_len]; omega))
        go_wp2_with fail
        rw [← HM.out]
        exact ⟨by rw [HN.out] <;> rfl, HX0.out⟩
      go_wp2_with fail
      go_loopw [3] (fun i wr => ∃ k : Nat, k ≤ T.size ∧ i = .int .i64 k ∧ Hid (Ex w wr) ∧ Hid ((T.data.toList.take k).all dgP = true)) (fun i wr => T.size - (intOf i).toNat)
      case atStart => exact ⟨0, Nat.zero_le _, rfl, HX0, Lib.hid rfl⟩
      case round =>
        obtain ⟨k, hk, rfl, HX, HA⟩ := hrel
        by_cases hlt : k < T.size
        case pos =>
          have hlk : ((k : Int) < T.size) := by omega
          obtain ⟨b, hb⟩ : ∃ b, T[k]'hlt = b := ⟨_, rfl⟩
          have Hb := Lib.hid hb
          by_cases k1 : ((b.toNat : Nat) : Int) < 48
          · have HN : Hid (B = false) := Lib.hid (by rw [HT.out, tl_bad (str_bad (p := dgP) hlt Hb.out (by unfold dgP; rw [decide_eq_false (by omega), Bool.false_and]))])
            go_wp2_with fail
            rw [← HM.out]
            exact ⟨by rw [HN.out] <;> rfl, HX.out⟩
          by_cases k2 : ((b.toNat : Nat) : Int) > 57
          · have HN : Hid (B = false) := Lib.hid (by rw [HT.out, tl_bad (str_bad (p := dgP) hlt Hb.out (by unfold dgP; rw [decide_eq_false (p := b.toNat ≤ 57) (by omega), Bool.and_false]))])
            go_wp2_with fail
            rw [← HM.out]
            exact ⟨by rw [HN.out] <;> rfl, HX.out⟩
          have HA2 : Hid ((T.data.toList.take (k + 1)).all dgP = true) := Lib.hid (str_take hlt Hb.out HA.out (by unfold dgP; rw [decide_eq_true (by omega), decide_eq_true (by omega)]; rfl))
          go_wp2_with fail
          go_roundw
          case rel => exact ⟨k + 1, by omega, by go_num, HX, HA2⟩
          case measure => simp [intOf]; omega
        case neg =>
          have : k = T.size := by omega
          subst this
          have HN : Hid (B = true) := Lib.hid (by rw [HT.out]; exact tl_ok (bytes_len _) (by omega) (by omega) (.inl (by omega)) (str_all HA.out))
          go_wp2_with fail
          rw [← HM.out]
          exact ⟨by rw [HN.out] <;> rfl, HX.out⟩
    have c6 : ¬ ((b0.toNat : Nat) : Int) = 48 := fun h => c4 (UInt8.toNat_inj.1 (by show b0.toNat = 48; omega))
    have Hc4 := Lib.hid c4
    clear c4
    go_wp2_with fail
    go_loopw [3] (fun i wr => ∃ k : Nat, k ≤ T.size ∧ i = .int .i64 k ∧ Hid (Ex w wr) ∧ Hid ((T.data.toList.take k).all dgP = true)) (fun i wr => T.size - (intOf i).toNat)
    case atStart => exact ⟨0, Nat.zero_le _, rfl, HX0, Lib.hid rfl⟩
    case round =>
      obtain ⟨k, hk, rfl, HX, HA⟩ := hrel
      by_cases hlt : k < T.size
      case pos =>
        have hlk : ((k : Int) < T.size) := by omega
        obtain ⟨b, hb⟩ : ∃ b, T[k]'hlt = b := ⟨_, rfl⟩
        have Hb := Lib.hid hb
        by_cases k1 : ((b.toNat : Nat) : Int) < 48
        · have HN : Hid (B = false) := Lib.hid (by rw [HT.out, tl_bad (str_bad (p := dgP) hlt Hb.out (by unfold dgP; rw [decide_eq_false (by omega), Bool.false_and]))])
          go_wp2_with fail
          rw [← HM.out]
          exact ⟨by rw [HN.out] <;> rfl, HX.out⟩
        by_cases k2 : ((b.toNat : Nat) : Int) > 57
        · have HN : Hid (B = false) := Lib.hid (by rw [HT.out, tl_bad (str_bad (p := dgP) hlt Hb.out (by unfold dgP; rw [decide_eq_false (p := b.toNat ≤ 57) (by omega), Bool.and_false]))])
          go_wp2_with fail
          rw [← HM.out]
          exact ⟨by rw [HN.out] <;> rfl, HX.out⟩
        have HA2 : Hid ((T.data.toList.take (k + 1)).all dgP = true) := Lib.hid (str_take hlt Hb.out HA.out (by unfold dgP; rw [decide_eq_true (by omega), decide_eq_true (by omega)]; rfl))
        go_wp2_with fail
        go_roundw
        case rel => exact ⟨k + 1, by omega, by go_num, HX, HA2⟩
        case measure => simp [intOf]; omega
      case neg =>
        have : k = T.size := by omega
        subst this
        have HN : Hid (B = true) := Lib.hid (by rw [HT.out]; exact tl_ok (bytes_len _) (by omega) (by omega) (.inr (fun h => Hc4.out (by have h2 := str_get c3 Hb0.out; rw [← List.head?_eq_getElem?, h] at h2; exact (Option.some.inj h2).symm))) (str_all HA.out))
        go_wp2_with fail
        rw [← HM.out]
        exact ⟨by rw [HN.out] <;> rfl, HX.out⟩
  case neg =>
    obtain ⟨T, hT⟩ : ∃ T, s = T := ⟨_, rfl⟩
    subst hT
    have HT : Hid (B = tlB s.data.toList) := Lib.hid (by rw [← hB]; exact intB_plain (by rw [hm2]; intro h; exact e5 (Option.some.inj h)))
    have e6 : ¬ ((m.toNat : Nat) : Int) = 45 := fun h => e5 (UInt8.toNat_inj.1 (by show m.toNat = 45; omega))
    clear hB hm2 e5
    go_enter Tryz.func157, Tryz.ntmps157
    go_upto_region 5 with fail
    clear hm e6 e3 e4
    by_cases c1 : (s.size : Int) < 1
    · have HN : Hid (B = false) := Lib.hid (by rw [HT.out]; unfold tlB; rw [bytes_len, decide_eq_false (by omega)]; rfl)
      go_wp2_with fail
      rw [← HM.out]
      exact ⟨by rw [HN.out] <;> rfl, HX0.out⟩
    by_cases c2 : (s.size : Int) > 200
    · have HN : Hid (B = false) := Lib.hid (by rw [HT.out]; unfold tlB; rw [bytes_len, decide_eq_false (p := s.size ≤ 200) (by omega), Bool.and_false]; rfl)
      go_wp2_with fail
      rw [← HM.out]
      exact ⟨by rw [HN.out] <;> rfl, HX0.out⟩
    have c3 : 0 < s.size := by omega
    obtain ⟨b0, hb0⟩ : ∃ b, s[0]'c3 = b := ⟨_, rfl⟩
    have Hb0 := Lib.hid hb0
    by_cases c4 : b0 = 48
    · subst c4
      by_cases c5 : (s.size : Int) > 1
      · have HN : Hid (B = false) := Lib.hid (by rw [HT.out]; exact tl_zero (by rw [List.head?_eq_getElem?]; exact str_get c3 Hb0.out) (by rw [bytes_len]; omega))
        go_wp2_with fail
        rw [← HM.out]
        exact ⟨by rw [HN.out] <;> rfl, HX0.out⟩
      go_wp2_with fail
      go_loopw [3] (fun i wr => ∃ k : Nat, k ≤ s.size ∧ i = .int .i64 k ∧ Hid (Ex w wr) ∧ Hid ((s.data.toList.take k).all dgP = true)) (fun i wr => s.size - (intOf i).toNat)
      case atStart => exact ⟨0, Nat.zero_le _, rfl, HX0, Lib.hid rfl⟩
      case round =>
        obtain ⟨k, hk, rfl, HX, HA⟩ := hrel
        by_cases hlt : k < s.size
        case pos =>
          have hlk : ((k : Int) < s.size) := by omega
          obtain ⟨b, hb⟩ : ∃ b, s[k]'hlt = b := ⟨_, rfl⟩
          have Hb := Lib.hid hb
          by_cases k1 : ((b.toNat : Nat) : Int) < 48
          · have HN : Hid (B = false) := Lib.hid (by rw [HT.out, tl_bad (str_bad (p := dgP) hlt Hb.out (by unfold dgP; rw [decide_eq_false (by omega), Bool.false_and]))])
            go_wp2_with fail
            rw [← HM.out]
            exact ⟨by rw [HN.out] <;> rfl, HX.out⟩
          by_cases k2 : ((b.toNat : Nat) : Int) > 57
          · have HN : Hid (B = false) := Lib.hid (by rw [HT.out, tl_bad (str_bad (p := dgP) hlt Hb.out (by unfold dgP; rw [decide_eq_false (p := b.toNat ≤ 57) (by omega), Bool.and_false]))])
            go_wp2_with fail
            rw [← HM.out]
            exact ⟨by rw [HN.out] <;> rfl, HX.out⟩
          have HA2 : Hid ((s.data.toList.take (k + 1)).all dgP = true) := Lib.hid (str_take hlt Hb.out HA.out (by unfold dgP; rw [decide_eq_true (by omega), decide_eq_true (by omega)]; rfl))
          go_wp2_with fail
          go_roundw
          case rel => exact ⟨k + 1, by omega, by go_num, HX, HA2⟩
          case measure => simp [intOf]; omega
        case neg =>
          have : k = s.size := by omega
          subst this
          have HN : Hid (B = true) := Lib.hid (by rw [HT.out]; exact tl_ok (bytes_len _) (by omega) (by omega) (.inl (by omega)) (str_all HA.out))
          go_wp2_with fail
          rw [← HM.out]
          exact ⟨by rw [HN.out] <;> rfl, HX.out⟩
    have c6 : ¬ ((b0.toNat : Nat) : Int) = 48 := fun h => c4 (UInt8.toNat_inj.1 (by show b0.toNat = 48; omega))
    have Hc4 := Lib.hid c4
    clear c4
    go_wp2_with fail
    go_loopw [3] (fun i wr => ∃ k : Nat, k ≤ s.size ∧ i = .int .i64 k ∧ Hid (Ex w wr) ∧ Hid ((s.data.toList.take k).all dgP = true)) (fun i wr => s.size - (intOf i).toNat)
    case atStart => exact ⟨0, Nat.zero_le _, rfl, HX0, Lib.hid rfl⟩
    case round =>
      obtain ⟨k, hk, rfl, HX, HA⟩ := hrel
      by_cases hlt : k < s.size
      case pos =>
        have hlk : ((k : Int) < s.size) := by omega
        obtain ⟨b, hb⟩ : ∃ b, s[k]'hlt = b := ⟨_, rfl⟩
        have Hb := Lib.hid hb
        by_cases k1 : ((b.toNat : Nat) : Int) < 48
        · have HN : Hid (B = false) := Lib.hid (by rw [HT.out, tl_bad (str_bad (p := dgP) hlt Hb.out (by unfold dgP; rw [decide_eq_false (by omega), Bool.false_and]))])
          go_wp2_with fail
          rw [← HM.out]
          exact ⟨by rw [HN.out] <;> rfl, HX.out⟩
        by_cases k2 : ((b.toNat : Nat) : Int) > 57
        · have HN : Hid (B = false) := Lib.hid (by rw [HT.out, tl_bad (str_bad (p := dgP) hlt Hb.out (by unfold dgP; rw [decide_eq_false (p := b.toNat ≤ 57) (by omega), Bool.and_false]))])
          go_wp2_with fail
          rw [← HM.out]
          exact ⟨by rw [HN.out] <;> rfl, HX.out⟩
        have HA2 : Hid ((s.data.toList.take (k + 1)).all dgP = true) := Lib.hid (str_take hlt Hb.out HA.out (by unfold dgP; rw [decide_eq_true (by omega), decide_eq_true (by omega)]; rfl))
        go_wp2_with fail
        go_roundw
        case rel => exact ⟨k + 1, by omega, by go_num, HX, HA2⟩
        case measure => simp [intOf]; omega
      case neg =>
        have : k = s.size := by omega
        subst this
        have HN : Hid (B = true) := Lib.hid (by rw [HT.out]; exact tl_ok (bytes_len _) (by omega) (by omega) (.inr (fun h => Hc4.out (by have h2 := str_get c3 Hb0.out; rw [← List.head?_eq_getElem?, h] at h2; exact (Option.some.inj h2).symm))) (str_all HA.out))
        go_wp2_with fail
        rw [← HM.out]
        exact ⟨by rw [HN.out] <;> rfl, HX.out⟩
end Go.Proofs.YtlaepkmnbbgbcaaGreatDoor
/- The reference's chained. -/
namespace Go.Proofs.YtlaepkmnbbgbcaaGreatDoor
open Go.RowKit Go.Instr
set_option linter.unusedVariables false
set_option linter.unusedSimpArgs false
attribute [local go_sem] Oper.semAt_some

theorem within_t {w : World} {n lo hi : Int} (h1 : lo ≤ n) (h2 : n ≤ hi) : Calls Tryz.prog 94 #[.int .i64 n, .int .i64 lo, .int .i64 hi] w fun e w' => e = .returned (.bool true) ∧ w' = w := by
  have := within_any (w := w) n lo hi
  unfold wiB at this
  rwa [decide_eq_true h1, decide_eq_true h2] at this
theorem within_f {w : World} {n lo hi : Int} (h : ¬ (lo ≤ n ∧ n ≤ hi)) : Calls Tryz.prog 94 #[.int .i64 n, .int .i64 lo, .int .i64 hi] w fun e w' => e = .returned (.bool false) ∧ w' = w := by
  have := within_any (w := w) n lo hi
  unfold wiB at this
  rwa [← Bool.decide_and, decide_eq_false h] at this
set_option maxRecDepth 100000 in
set_option maxHeartbeats 1000000 in
/-- Ints: it only reads. -/
theorem IntsQ_any {w : World} {v1 v2 : Value} {l m : List Int} (h1 : RdL encI w v1 l) (h2 : RdL encI w v2 m) (hl : l.length ≤ 2000000) (hm : m.length ≤ 2000000) :
    Calls Tryz.prog 23 #[v1, v2] w fun e w' => e = .returned (.bool (decide (l = m))) ∧ ∃ q, w' = w.drewN q := by
  obtain ⟨a1, c1, rfl, -, n1, -⟩ := id h1
  obtain ⟨a2, c2, rfl, -, n2, -⟩ := id h2
  generalize hI : decide (l = m) = I
  by_cases hlen : l.length = m.length
  · have H1 := Lib.hid h1; have H2 := Lib.hid h2; have HI := Lib.hid hI; have HL := Lib.hid hlen
    have hlen' : (l.length : Int) = (m.length : Int) := by rw [hlen]
    clear h1 h2 hI hlen
    go_enter Tryz.func23, Tryz.ntmps23
    go_wp2
    go_loopw [5] (fun i wr => ∃ k : Nat, k ≤ l.length ∧ i = .int .i64 k ∧ (∃ q, wr = w.drewN q) ∧ Hid (l.take k = m.take k)) (fun i wr => l.length - (intOf i).toNat)
    case atStart => exact ⟨0, Nat.zero_le _, rfl, ⟨0, rfl⟩, by simp [Hid]⟩
    case round =>
      obtain ⟨k, hk, rfl, ⟨q, rfl⟩, HP⟩ := hrel
      by_cases hlt : k < l.length
      · have hlt2 : k < m.length := by rw [← HL.out]; exact hlt
        have hu : l[k]? = some l[k] := List.getElem?_eq_getElem hlt
        have hv : m[k]? = some m[k] := List.getElem?_eq_getElem hlt2
        obtain ⟨ad1, rfl⟩ : ∃ ad, a1 = some ad := by
          cases a1 with
          | none => have := n1 rfl; subst this; simp at hlt
          | some ad => exact ⟨ad, rfl⟩
        obtain ⟨ad2, rfl⟩ : ∃ ad, a2 = some ad := by
          cases a2 with
          | none => have := n2 rfl; subst this; simp at hlt2
          | some ad => exact ⟨ad, rfl⟩
        obtain ⟨A, hA⟩ : ∃ A, ad1.add k = A := ⟨_, rfl⟩
        obtain ⟨B, hB⟩ : ∃ B, ad2.add k = B := ⟨_, rfl⟩
        have f1 : w.cell? A = some (.int .i64 l[k]) := by
          have := H1.out.at encI_len hu 0 (by omega)
          rw [Addr.add_zero', Nat.mul_one, hA] at this; exact this.trans rfl
        have f2 : w.cell? B = some (.int .i64 m[k]) := by
          have := H2.out.at encI_len hv 0 (by omega)
          rw [Addr.add_zero', Nat.mul_one, hB] at this; exact this.trans rfl
        have Hu := Lib.hid hu; have Hv := Lib.hid hv
        clear hu hv n1 n2
        by_cases he : l[k] = m[k]
        · have HP2 : Hid (l.take (k + 1) = m.take (k + 1)) := take_eq_succ HP.out Hu.out (by rw [he]; exact Hv.out)
          generalize l[k] = X at *
          generalize m[k] = Y at *
          subst he
          go_wp2
          go_quiet (fail)
          go_wp2
          go_roundw
          case rel => exact ⟨k + 1, by omega, by go_num, ⟨_, rfl⟩, HP2⟩
          case measure => simp [intOf]; omega
        · have hne : l ≠ m := by
            rintro rfl
            exact he rfl
          have e1 : I = false := by rw [← HI.out]; simp [hne]
          subst e1
          generalize l[k] = X at *
          generalize m[k] = Y at *
          go_wp2
          go_quiet (fail)
          go_wp2
          go_ret
          exact ⟨rfl, _, World.drewN_drewN _ _ _⟩
      · have : k = l.length := by omega
        subst this
        have hle : l = m := by
          have := HP.out
          rw [List.take_length, HL.out, List.take_length] at this; exact this
        have e1 : I = true := by rw [← HI.out]; simp [hle]
        subst e1
        go_wp2
        go_ret
        exact ⟨rfl, q, rfl⟩
  · have hne : l ≠ m := by rintro rfl; exact hlen rfl
    have e1 : I = false := by rw [← hI]; simp [hne]
    subst e1
    have : ¬ ((l.length : Int) = (m.length : Int)) := by omega
    clear hI
    go_enter Tryz.func23, Tryz.ntmps23
    go_wp2
    go_ret
    exact ⟨rfl, 0, rfl⟩
/-- The first part of a level. -/
def lev1 (c : Co) (d : De) (q : Nat) : Bool := decide (0 ≤ d.chain.getD q 0) && decide (d.chain.getD q 0 < (c.descs.length : Nat)) && decide (0 ≤ d.up.getD q 0) && decide (d.up.getD q 0 ≤ 2000)
theorem lev1_bad {c : Co} {d : De} {q : Nat} (h : lev1 c d q = false) : levelB c d q = false := by
  unfold levelB; unfold lev1 at h; rw [h, Bool.false_and]
theorem lev1_level {c : Co} {d : De} {q : Nat} (h : lev1 c d q = true) : levelB c d q = (decide (¬ q < d.chain.length - 1) || decide ((c.de (d.chain.getD q 0)).chain = d.chain.take (q + 1))) := by
  unfold levelB; unfold lev1 at h; rw [h, Bool.true_and]
theorem lev1_last {c : Co} {d : De} {q : Nat} (h : lev1 c d q = true) (hq : ¬ q < d.chain.length - 1) : levelB c d q = true := by
  rw [lev1_level h, decide_eq_true hq, Bool.true_or]
set_option maxRecDepth 100000 in
set_option maxHeartbeats 2000000 in
theorem chained_any {w : World} {dv lv tv rv iv : Value} {c : Co} {xs : List DeV} (h : RdCo w dv lv tv rv iv c xs) (hb : Big c) (i : Nat) (hi : i < c.descs.length) :
    Calls Tryz.prog 126 #[codeV dv lv tv rv iv, .int .i64 i] w fun e w' => e = .returned (.bool (chainB c i (c.de i))) ∧ Ex w w' := by
  obtain ⟨da, dc, rfl, -, hd1, -⟩ := id h.ds
  obtain ⟨la, lc, rfl, -⟩ := id h.ls
  obtain ⟨ta, tc, rfl, -⟩ := id h.ts
  obtain ⟨ra, rc, rfl, -⟩ := id h.rs
  obtain ⟨ia, ic, rfl, -⟩ := id h.is
  have hn := h.len
  have hi' : i < xs.length := by omega
  obtain ⟨x, hx⟩ : ∃ x, xs[i]? = some x := ⟨_, List.getElem?_eq_getElem hi'⟩
  have hde := h.de_at hx
  have hD := h.de x (List.mem_of_getElem? hx)
  rw [hde]
  obtain ⟨d, cv, uv, vv⟩ := x
  simp only at hde ⊢
  generalize hB : chainB c i d = B
  obtain ⟨ca, cc, ec, hc0, hc1, -⟩ := id hD.chain
  obtain ⟨ua, uc, eu, -, hu1, -⟩ := id hD.up
  obtain ⟨va, vc, ev, -, -, -⟩ := id hD.virts
  simp only at ec eu ev hc0 hc1 hu1 hD
  subst ec; subst eu; subst ev
  obtain ⟨ad, rfl⟩ : ∃ ad, da = some ad := by
    cases da with
    | none => have := hd1 rfl; subst this; simp at hi'
    | some ad => exact ⟨ad, rfl⟩
  obtain ⟨A, hA⟩ : ∃ A, ad.add (i * 11) = A := ⟨_, rfl⟩
  obtain ⟨W1, hW1⟩ : ∃ W1, w.alloc (.cells #[.slice (some ad) xs.length dc, .slice la c.labels.length lc, .slice ta c.texts.length tc, .slice ra c.reals.length rc, .slice ia c.instrs.length ic] 28) = W1 := ⟨_, rfl⟩
  obtain ⟨b0, hb0⟩ : ∃ b0, w.heap.size = b0 := ⟨_, rfl⟩
  have hX1 : Ex w W1 := by rw [← hW1]; exact (Keeps.refl _ w).alloc _
  have hB0 : Blk W1 b0 #[.slice (some ad) xs.length dc, .slice la c.labels.length lc, .slice ta c.texts.length tc, .slice ra c.reals.length rc, .slice ia c.instrs.length ic] 28 := by rw [← hW1, ← hb0]; exact Blk.new w _ _
  have hs1 : W1.heap.size = b0 + 1 := by rw [← hW1, ← hb0, World.size_alloc]
  have x0 : W1.cell? ⟨b0, 0, none⟩ = some (.slice (some ad) xs.length dc) := (hB0.cell 0).trans rfl
  obtain ⟨e0, e1, e2, e3, e4, e5, e6, e7, e8, e9, e10⟩ := (h.ds.ext hX1).deCells hx hA
  obtain ⟨W2, hW2⟩ : ∃ W2, W1.alloc (.cells (encD ⟨d, .slice ca d.chain.length cc, .slice ua d.up.length uc, .slice va d.virts.length vc⟩).toArray 50) = W2 := ⟨_, rfl⟩
  obtain ⟨b1, hb1⟩ : ∃ b1, W1.heap.size = b1 := ⟨_, rfl⟩
  have hX2 : Ex w W2 := by rw [← hW2]; exact hX1.alloc _
  have hX12 : Ex W1 W2 := by rw [← hW2]; exact (Keeps.refl _ W1).alloc _
  have hB1 : Blk W2 b1 (encD ⟨d, .slice ca d.chain.length cc, .slice ua d.up.length uc, .slice va d.virts.length vc⟩).toArray 50 := by rw [← hW2, ← hb1]; exact Blk.new W1 _ _
  unfold encD at hW2 hB1
  have hlx : xs.length ≤ 1000000 := by have := hb.d; omega
  have H := Lib.hid h; have HX1 := Lib.hid hX1; have HB0 := Lib.hid (hX12.blk hB0 id); have HD := Lib.hid hD; have HN := Lib.hid hn; have HXx := Lib.hid hx; have HB1 := Lib.hid hB1; have HX2 := Lib.hid hX2
  have HW1 := Lib.hid hW1; have Hb0 := Lib.hid hb0; have Hde := Lib.hid hde; have Hc1 := Lib.hid hc1; have Hu1 := Lib.hid hu1; have Hb := Lib.hid hb; have Hc0 := Lib.hid hc0; have HW2 := Lib.hid hW2; have Hb1 := Lib.hid hb1; have HB := Lib.hid hB; have HA := Lib.hid hA
  clear h hX1 hB0 hD hs1 hn hx hW1 hb0 hde hd1 hc1 hu1 hb hc0 hX2 hX12 hB1 hW2 hb1 hB
  unfold codeV
  simp only at e0 e1 e2 e3 e4 e5 e6 e7 e8 e9 e10
  go_enter Tryz.func126, Tryz.ntmps126
  go_upto_region 1 with fail
  try rw [HW1.out]
  try rw [Hb0.out]
  go_upto_region 2 with fail
  rw [HW2.out, Hb1.out]
  clear e0 e1 e2 e3 e4 e5 e6 e7 e8 e9 e10 x0
  have HF0 : ∀ V, Ex W2 V → Hid (V.cell? ⟨b0, 0, none⟩ = some (.slice (some ad) xs.length dc) ∧ V.cell? ⟨b1, 1, none⟩ = some (.slice ca d.chain.length cc) ∧ V.cell? ⟨b1, 2, none⟩ = some (.slice ua d.up.length uc)) := fun V hV =>
    ⟨((hV.blk HB0.out id).cell 0).trans rfl, ((hV.blk HB1.out id).cell 1).trans rfl, ((hV.blk HB1.out id).cell 2).trans rfl⟩
  obtain ⟨x0, y1, y2⟩ := (HF0 W2 (Keeps.refl _ _)).out
  have hcl : d.chain.length ≤ 1000000 := (Hb.out.e d (by rw [← H.out.eq]; exact List.mem_map.2 ⟨_, List.mem_of_getElem? HXx.out, rfl⟩)).1
  have hul : d.up.length ≤ 1000000 := (Hb.out.e d (by rw [← H.out.eq]; exact List.mem_map.2 ⟨_, List.mem_of_getElem? HXx.out, rfl⟩)).2.1
  go_upto_region 3 with fail
  cases hlen : d.chain.length with
  | zero =>
    have e : B = false := by rw [← HB.out]; exact chainB_empty hlen
    subst e
    rw [hlen] at y1
    go_wp2_with fail
    go_ret
    exact ⟨rfl, HX2.out⟩
  | succ m =>
    obtain ⟨cad, rfl⟩ : ∃ a, ca = some a := by
      cases ca with
      | none => have := Hc1.out rfl; rw [this] at hlen; simp at hlen
      | some a => exact ⟨a, rfl⟩
    have hRC := HD.out.chain
    simp only at hRC
    have HRC := Lib.hid hRC
    have HL := Lib.hid hlen
    rw [hlen] at y1 hcl
    clear hlen hRC
    have hz := HL.out
    by_cases a1 : (m : Int) + 1 > 40
    · -- too long
      have e : B = false := by rw [← HB.out]; exact chainB_long (by rw [HL.out]; omega)
      subst e
      go_wp2_with fail
      go_ret
      exact ⟨rfl, HX2.out⟩
    by_cases a3 : (d.up.length : Int) = (m : Int) + 1
    case neg =>
      have e : B = false := by rw [← HB.out]; exact chainB_up (by rw [HL.out]; omega)
      subst e
      have a3b : ((d.up.length : Int) != (m : Int) + 1) = true := by simpa using a3
      go_wp2_with fail
      go_ret
      exact ⟨rfl, HX2.out⟩
    have a3' : d.up.length = m + 1 := by omega
    obtain ⟨uad, rfl⟩ : ∃ a, ua = some a := by
      cases ua with
      | none => have := Hu1.out rfl; rw [this] at a3'; simp at a3'
      | some a => exact ⟨a, rfl⟩
    have hRU := HD.out.up
    simp only at hRU
    have HRU := Lib.hid hRU
    have HU := Lib.hid a3'
    rw [a3'] at y2
    clear hRU a3 a3' hul hz
    go_wp2_with fail
    clear y1 y2 x0
    go_loopw [7] (fun s wr => ∃ k : Nat, k ≤ m + 1 ∧ s = .int .i64 k ∧ Hid (Ex W2 wr) ∧ Hid (∀ j, j < k → lev1 c d j = true)) (fun s wr => m + 1 - (intOf s).toNat)
    case atStart => exact ⟨0, Nat.zero_le _, rfl, Lib.hid (Keeps.refl _ W2), Lib.hid (fun j hj => by omega)⟩
    case round =>
      obtain ⟨k, hk, rfl, HX, HP⟩ := hrel
      by_cases hlt : k < m + 1
      case pos =>
        obtain ⟨x0, y1, y2⟩ := (HF0 wr HX.out).out
        rw [HL.out] at y1
        rw [HU.out] at y2
        have hXw := HX2.out.trans HX.out
        have z1 : wr.cell? (cad.add k) = some (.int .i64 (d.chain.getD k 0)) := (HRC.out.ext hXw).int_at (by rw [HL.out]; exact hlt)
        have z2 : wr.cell? (uad.add k) = some (.int .i64 (d.up.getD k 0)) := (HRU.out.ext hXw).int_at (by rw [HU.out]; exact hlt)
        have HXw := Lib.hid hXw
        generalize hE : d.chain.getD k 0 = E at z1
        generalize hU : d.up.getD k 0 = U at z2
        have HE := Lib.hid hE; have HUU := Lib.hid hU
        clear hE hU hXw
        have hlv : lev1 c d k = (decide (0 ≤ E) && decide (E < (c.descs.length : Nat)) && decide (0 ≤ U) && decide (U ≤ 2000)) := by
          unfold lev1; rw [HE.out, HUU.out]
        have Hlv := Lib.hid hlv
        have Hbad : Hid (lev1 c d k = false → B = false) := Lib.hid (fun h => by rw [← HB.out]; exact chainB_level (by rw [HL.out]; exact hlt) (lev1_bad h))
        have s1 : IntKind.i64.wrap ((xs.length : Int) - 1) = (xs.length : Int) - 1 := by simp [IntKind.wrap_i64]; omega
        clear hlv
        go_upto_region 8 with fail
        by_cases b1 : 0 ≤ E ∧ E ≤ (xs.length : Int) - 1
        case neg =>
          have e : B = false := Hbad.out (by rw [Hlv.out]; by_cases h0 : 0 ≤ E; · rw [show decide (E < (c.descs.length : Nat)) = false from decide_eq_false (by have := HN.out; omega)]; simp
                                             · rw [decide_eq_false h0]; simp)
          subst e
          go_quiet ((go_at_call 94; exact Calls.quiet_of_same (within_f b1)))
          go_wp2_with fail
          go_ret
          exact ⟨rfl, HXw.out.drewN _⟩
        by_cases b2 : 0 ≤ U ∧ U ≤ 2000
        case neg =>
          have e : B = false := Hbad.out (by rw [Hlv.out]; by_cases h0 : 0 ≤ U; · rw [show decide (U ≤ 2000) = false from decide_eq_false (by omega)]; simp
                                             · rw [decide_eq_false h0]; simp)
          subst e
          go_quiet ((go_at_call 94; first | exact Calls.quiet_of_same (within_t b1.1 b1.2) | exact Calls.quiet_of_same (within_f b2)))
          go_wp2_with fail
          go_ret
          exact ⟨rfl, HXw.out.drewN _⟩
        have hnew : Hid (∀ j, j < k + 1 → lev1 c d j = true) := Lib.hid (fun j hj => by
          by_cases e : j = k
          · subst e; rw [Hlv.out]; have := HN.out; simp; omega
          · exact HP.out j (by omega))
        go_quiet ((go_at_call 94; first | exact Calls.quiet_of_same (within_t b1.1 b1.2) | exact Calls.quiet_of_same (within_t b2.1 b2.2)))
        go_wp2_with fail
        go_roundw
        case rel => exact ⟨k + 1, by omega, by go_num, HX.out.drewN _, hnew⟩
        case measure => simp [intOf]; omega
      case neg =>
      have : k = m + 1 := by omega
      subst this
      obtain ⟨x0, y1, y2⟩ := (HF0 wr HX.out).out
      rw [HL.out] at y1
      rw [HU.out] at y2
      have hXw := HX2.out.trans HX.out
      have z1 : wr.cell? (cad.add m) = some (.int .i64 (d.chain.getD m 0)) := (HRC.out.ext hXw).int_at (by rw [HL.out]; omega)
      have z2 : wr.cell? (uad.add m) = some (.int .i64 (d.up.getD m 0)) := (HRU.out.ext hXw).int_at (by rw [HU.out]; omega)
      have HXw := Lib.hid hXw
      clear hXw
      have s2 : IntKind.i64.wrap ((m : Int) + 1 - 1) = (m : Int) := by simp [IntKind.wrap_i64]; omega
      by_cases a2 : d.chain.getD m 0 = (i : Int)
      case neg =>
        have e : B = false := by rw [← HB.out]; exact chainB_last (by rw [HL.out]; exact a2)
        subst e
        generalize d.chain.getD m 0 = X at z1 a2
        go_wp2_with fail
        go_ret
        exact ⟨rfl, HXw.out⟩
      have HA2 := Lib.hid a2
      rw [a2] at z1
      clear a2
      by_cases a4 : d.up.getD m 0 = 0
      case neg =>
        have e : B = false := by rw [← HB.out]; exact chainB_zero (by rw [HL.out]; exact a4)
        subst e
        generalize d.up.getD m 0 = X at z2 a4
        have a5 : (X != 0) = true := by simpa using a4
        go_wp2_with fail
        go_ret
        exact ⟨rfl, HXw.out⟩
      have HA4 := Lib.hid a4
      rw [a4] at z2
      clear a4
      go_wp2_with fail
      have HXr : Hid (Ex W2 wr) := HX
      clear x0 y1 y2 z1 z2
      go_loopw [8] (fun s wr => ∃ k : Nat, k ≤ m ∧ s = .int .i64 k ∧ Hid (Ex W2 wr) ∧ Hid (∀ j, j < k → levelB c d j = true)) (fun s wr => m - (intOf s).toNat)
      case atStart => exact ⟨0, Nat.zero_le _, rfl, HXr, Lib.hid (fun j hj => by omega)⟩
      case round =>
        obtain ⟨k, hk, rfl, HX, HP2⟩ := hrel
        by_cases hlt : k < m
        case neg =>
          have : k = m := by omega
          subst this
          have e : B = true := by
            rw [← HB.out]
            refine chainB_true HL.out (by omega) HA2.out HU.out HA4.out (fun j hj => ?_)
            by_cases e : j = k
            · subst e; exact lev1_last (HP.out j hj) (by rw [HL.out]; omega)
            · exact HP2.out j (by omega)
          subst e
          go_wp2_with fail
          go_ret
          exact ⟨rfl, HX2.out.trans HX.out⟩
        case pos =>
          obtain ⟨x0, y1, y2⟩ := (HF0 wr HX.out).out
          rw [HL.out] at y1
          rw [HU.out] at y2
          have hXw := HX2.out.trans HX.out
          have z1 : wr.cell? (cad.add k) = some (.int .i64 (d.chain.getD k 0)) := (HRC.out.ext hXw).int_at (by rw [HL.out]; omega)
          have HXw := Lib.hid hXw
          have hl1 := HP.out k (by omega)
          have hl2 := hl1
          unfold lev1 at hl2
          simp only [Bool.and_eq_true, decide_eq_true_eq] at hl2
          obtain ⟨ei, hei0⟩ : ∃ ei : Nat, d.chain.getD k 0 = (ei : Int) := ⟨(d.chain.getD k 0).toNat, by omega⟩
          have HEi := Lib.hid hei0
          rw [hei0] at z1 hl2
          have hei : ei < xs.length := by have := HN.out; omega
          obtain ⟨y, hy⟩ : ∃ y, xs[ei]? = some y := ⟨_, List.getElem?_eq_getElem hei⟩
          have hyd := H.out.de_at hy
          have hYD := H.out.de y (List.mem_of_getElem? hy)
          have hYL := (Hb.out.e y.d (by rw [← H.out.eq]; exact List.mem_map.2 ⟨_, List.mem_of_getElem? hy, rfl⟩)).1
          obtain ⟨D, hDd⟩ : ∃ D, ad.add (ei * 11) = D := ⟨_, rfl⟩
          have w1 := (((H.out.ds.ext HXw.out).deCells hy hDd).2.1)
          obtain ⟨yd, yc, yu, yv⟩ := y
          simp only at hyd hYD hYL w1
          obtain ⟨ya, ycp, eyc, -, -, -⟩ := id hYD.chain
          simp only at eyc
          subst eyc
          have hEq : ∀ q, Calls Tryz.prog 23 #[.slice ya yd.chain.length ycp, .slice (some cad) (k + 1) cc] (wr.drewN q) fun e w' => e = .returned (.bool (decide (yd.chain = d.chain.take (k + 1)))) ∧ ∃ m, w' = (wr.drewN q).drewN m := fun q =>
            IntsQ_any (((hYD.ext HXw.out).ext ((Keeps.refl _ wr).drewN q)).chain) (((HRC.out.ext HXw.out).ext ((Keeps.refl _ wr).drewN q)).take encI_len (k + 1) (by rw [HL.out]; omega)) (by omega) (by rw [List.length_take, HL.out]; omega)
          have hQ : levelB c d k = decide (yd.chain = d.chain.take (k + 1)) := by
            rw [lev1_level hl1, HEi.out, hyd, HL.out, Nat.add_sub_cancel]; simp [hlt]
          have hcap := Hc0.out
          rw [HL.out] at hcap
          have HQ := Lib.hid hQ
          have HEq := Lib.hid hEq
          have HKm : Hid (k < d.chain.length) := Lib.hid (by rw [HL.out]; omega)
          clear hQ hEq hyd hYD hYL hy hl1 hl2 hXw hei0
          generalize decide (yd.chain = d.chain.take (k + 1)) = q at HQ HEq
          have s3 : IntKind.i64.wrap ((k : Int) + 1) = (k : Int) + 1 := by simp [IntKind.wrap_i64]; omega
          go_upto_region 15 with fail
          cases q with
          | false =>
            have e : B = false := by rw [← HB.out]; exact chainB_level HKm.out HQ.out
            subst e
            go_quiet ((go_at_call 23; exact Calls.quiet_of (HEq.out _)))
            go_wp2_with fail
            go_ret
            exact ⟨rfl, HXw.out.drewN _⟩
          | true =>
            have hnew : Hid (∀ j, j < k + 1 → levelB c d j = true) := Lib.hid (fun j hj => by
              by_cases e : j = k
              · subst e; exact HQ.out
              · exact HP2.out j (by omega))
            go_quiet ((go_at_call 23; exact Calls.quiet_of (HEq.out _)))
            go_wp2_with fail
            go_roundw
            case rel => exact ⟨k + 1, by omega, by go_num, HX.out.drewN _, hnew⟩
            case measure => simp [intOf]; omega
end Go.Proofs.YtlaepkmnbbgbcaaGreatDoor
/- The digits of a number, the last one first. -/
namespace Go.Proofs.YtlaepkmnbbgbcaaGreatDoor
open Go.RowKit
set_option linter.unusedVariables false
set_option linter.unusedSimpArgs false

/-- The digits of a number, the last one first. -/
def dgs (n : Nat) : List Nat := if h : n = 0 then [] else n % 10 :: dgs (n / 10)
termination_by n
decreasing_by omega
theorem dgs_zero : dgs 0 = [] := by unfold dgs; rfl
theorem dgs_pos {n : Nat} (h : n ≠ 0) : dgs n = n % 10 :: dgs (n / 10) := by rw [dgs]; rw [dif_neg h]
theorem dgs_le (k : Nat) : ∀ n, (dgs n).length ≤ k ↔ n < 10 ^ k := by
  induction k with
  | zero =>
    intro n
    by_cases h : n = 0
    · subst h; simp [dgs_zero]
    · rw [dgs_pos h]; simp; omega
  | succ k ih =>
    intro n
    by_cases h : n = 0
    · subst h; simp [dgs_zero]; exact Nat.pos_of_ne_zero (by simp)
    · rw [dgs_pos h, List.length_cons, Nat.add_le_add_iff_right, ih, Nat.pow_succ, Nat.div_lt_iff_lt_mul (by omega)]
theorem dgs_lt (n : Nat) : ∀ d ∈ dgs n, d < 10 := by
  induction n using Nat.strongRecOn with
  | _ n ih =>
    intro d hd
    by_cases h : n = 0
    · subst h; rw [dgs_zero] at hd; simp at hd
    · rw [dgs_pos h] at hd
      rcases List.mem_cons.1 hd with h1 | h1
      · omega
      · exact ih (n / 10) (by omega) d h1
theorem dgs_last (n : Nat) : ∀ d, (dgs n).getLast? = some d → d ≠ 0 := by
  induction n using Nat.strongRecOn with
  | _ n ih =>
    intro d hd
    by_cases h : n = 0
    · subst h; rw [dgs_zero] at hd; simp at hd
    · rw [dgs_pos h] at hd
      by_cases h2 : n / 10 = 0
      · rw [h2, dgs_zero] at hd
        simp at hd
        omega
      · rw [List.getLast?_cons] at hd
        have hne : dgs (n / 10) ≠ [] := by rw [dgs_pos h2]; simp
        cases hl : (dgs (n / 10)).getLast? with
        | none => rw [List.getLast?_eq_none_iff] at hl; exact absurd hl hne
        | some e =>
          rw [hl] at hd
          simp at hd
          subst hd
          exact ih (n / 10) (by omega) _ hl
theorem dgs_twelve (n : Nat) : (dgs n).length = 12 ↔ 100000000000 ≤ n ∧ n < 1000000000000 := by
  have h1 := dgs_le 11 n
  have h2 := dgs_le 12 n
  have e1 : (10 : Nat) ^ 11 = 100000000000 := by decide
  have e2 : (10 : Nat) ^ 12 = 1000000000000 := by decide
  rw [e1] at h1
  rw [e2] at h2
  omega
end Go.Proofs.YtlaepkmnbbgbcaaGreatDoor
