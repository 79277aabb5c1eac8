/- Remembered: slices.Sorted(maps.Keys(m)) by the shelf's contracts, laid at this program. -/
import Derived.Shelf.SlIterI.Nil
import Derived.Shelf.SlIterI.Sorted
import Derived.Test.YtikigppfnhilhaaGPD31
import Derived.Test.YtikigppfnhilhaaGPD26
/- Remembered: slices.Sorted(maps.Keys(m)) by the shelf's contracts, laid at this program. -/
namespace Go.Proofs.Ytikigppfnhilhaa
open Go.RowKit Go.Instr Go.Sort Go.Shelf Go.Maps
open Go.WideElems (Fit rg pl)
set_option linter.unusedVariables false
set_option linter.unusedSimpArgs false

def SK.ren : Go.Shelf.Ren := ⟨fun | 6 => 49 | 7 => 50 | 8 => 71 | 9 => 47 | 10 => 72 | 11 => 94 | n => n, fun | 3 => 4 | 4 => 4 | 23 => 79 | 24 => 52 | 26 => 3 | 27 => 106 | 28 => 107 | 33 => 124 | n => n, fun | n => n⟩
theorem SK.b6 : Bears Try.prog 49 (SlBodyZ.n6 SK.ren) := ⟨"slices.Sorted[int]", by decide, Try.func49.trans (congrArg some (by kernel_rfl))⟩
theorem SK.b7 : Bears Try.prog 50 (SlBodyZ.n7 SK.ren) := ⟨"maps.Keys[map[int]bool,int,bool]", by decide, Try.func50.trans (congrArg some (by kernel_rfl))⟩
theorem SK.b8 : Bears Try.prog 71 (SlBodyZ.n8 SK.ren) := ⟨"slices.Collect[int]", by decide, Try.func71.trans (congrArg some (by kernel_rfl))⟩
theorem SK.b10 : Bears Try.prog 72 (SlBodyZ.n10 SK.ren) := ⟨"maps.Keys[map[int]bool,int,bool]$1", by decide, Try.func72.trans (congrArg some (by kernel_rfl))⟩
theorem SK.b11 : Bears Try.prog 94 (SlBodyZ.n11 SK.ren) := ⟨"slices.AppendSeq[[]int,int]", by decide, Try.func94.trans (congrArg some (by kernel_rfl))⟩
theorem SK.keysL : SlLaysZI.n7 Try.prog SK.ren := {
  mixed := by kernel_rfl
  f7 := SK.b7
  f10 := SK.b10
  t0 := Try.underlying0
  a0 := Try.isAgg0
  z0 := Try.sizeOf0
  v0 := Try.zeroValue0
  t4 := Try.underlying4
  a4 := Try.isAgg4
  z4 := Try.sizeOf4
  v4 := Try.zeroValue4
  t23 := Try.underlying79
  a23 := Try.isAgg79
  z23 := Try.sizeOf79
  v23 := Try.zeroValue79
  t26 := Try.underlying3
  a26 := Try.isAgg3
  z26 := Try.sizeOf3
  v26 := Try.zeroValue3
  t27 := Try.underlying106
  a27 := Try.isAgg106
  z27 := Try.sizeOf106
  v27 := Try.zeroValue106
  t28 := Try.underlying107
  a28 := Try.isAgg107
  z28 := Try.sizeOf107
  v28 := Try.zeroValue107
  t33 := Try.underlying124
  a33 := Try.isAgg124
  z33 := Try.sizeOf124
  v33 := Try.zeroValue124 }
theorem SK.sortedL : SlLaysZI.n6 Try.prog SK.ren := {
  mixed := by kernel_rfl
  f6 := SK.b6
  f8 := SK.b8
  f11 := SK.b11
  t0 := Try.underlying0
  a0 := Try.isAgg0
  z0 := Try.sizeOf0
  v0 := Try.zeroValue0
  t24 := Try.underlying52
  a24 := Try.isAgg52
  z24 := Try.sizeOf52
  v24 := Try.zeroValue52
  t26 := Try.underlying3
  a26 := Try.isAgg3
  z26 := Try.sizeOf3
  v26 := Try.zeroValue3
  t28 := Try.underlying107
  a28 := Try.isAgg107
  z28 := Try.sizeOf107
  v28 := Try.zeroValue107
  i26 := info_intG }
theorem SK.sorts (m : Nat) : AnyZI.SortsIn Try.prog SK.ren Fence.wide m :=
  ⟨fun blk off cap ss W hH hblk hsz => callsIn_wide.2 (SO.slices_Sort_int blk off cap ss W hH hblk hsz),
   fun p cap W => callsIn_wide.2 (SO.slices_Sort_int_none p cap W)⟩

theorem keys_call (mb : Option Nat) (W : World) : Calls Try.prog 50 #[.map mb] W fun e w' => e = .returned (.func (.func 72) #[] #[.pointer (some ⟨W.heap.size, 0, none⟩)]) ∧ W.alloc (.cells #[.map mb] 79) = w' :=
  ((callsIn_wide (n := 5)).1 (AnyZI.keys_in SK.keysL Fence.wide 5 trivial rfl mb W)).mono fun e w' ⟨h1, h2⟩ => ⟨h1, h2.symm⟩

/-- The map's entries read as keys with a value that is not looked at. -/
def anyVal : Value → Option (DataW Unit × List MemPlace) := fun _ => some (.lit (.bool true), [])
theorem owns_of_es {w : World} {m ck : Nat} {es : Array MapEntry} (hm : w.heap[m]? = some (.map es ck)) (he : IntEs es ck) (hs : es.size ≤ 1000000) (hk : ∀ e ∈ es, ∀ k, e.key = .int .i64 k → -1000000 ≤ k ∧ k ≤ 1000000) :
    ∃ D : DataW Unit, w.ownsMap Try.prog 3 anyVal m 1000000 D ∧ Maps.size D = es.size ∧ (∀ k, k ∈ intKeys D ↔ ∃ e ∈ es, e.key = .int .i64 k) ∧ (intKeys D).Nodup := by
  have hrd : ∀ e ∈ es.toList, ∃ k, e.key = .int .i64 k ∧ Go.WideElems.rd Try.prog 3 anyVal e = some (.int .i64 k, .lit (.bool true)) := fun e hel => by
    obtain ⟨k, hk'⟩ := he.key e (by simpa using hel)
    obtain ⟨b1, b2⟩ := hk e (by simpa using hel) k hk'
    refine ⟨k, hk', ?_⟩
    have hwf : (Lit.int .i64 k).wf = true := by
      have e1 : IntKind.i64.min = -9223372036854775808 := by decide
      have e2 : IntKind.i64.max = 9223372036854775807 := by decide
      simp only [Lit.wf, decide_eq_true_eq, Bool.and_eq_true, e1, e2]
      omega
    unfold Go.WideElems.rd
    rw [hk']
    simp [keyOf, Try.underlying3, mapKey, hwf, anyVal]
  have F : Fit Try.prog 3 anyVal es ck := ⟨by unfold maxLen; omega, ⟨fun e hel => he.born e (by simpa using hel), he.borns, he.nodup⟩, fun e hel => by
    obtain ⟨k, _, h⟩ := hrd e hel; exact ⟨_, h⟩⟩
  refine ⟨_, ⟨es, ck, hm, F, hs, rfl⟩, ?_, fun k => ?_, ?_⟩
  · show ((es.toList.map (rg Try.prog 3 anyVal)).foldr DataW.insert []).length = es.size
    rw [length_sorted]; simp
  · unfold intKeys
    simp only [List.mem_map]
    constructor
    · rintro ⟨p, hp, rfl⟩
      obtain ⟨e, hel, rfl⟩ := List.mem_map.1 (mem_sorted.1 hp)
      obtain ⟨k, hk', h⟩ := hrd e hel
      refine ⟨e, by simpa using hel, ?_⟩
      rw [Go.WideElems.rg_of h]; exact hk'
    · rintro ⟨e, hel, hk'⟩
      have hel' : e ∈ es.toList := by simpa using hel
      obtain ⟨k2, hk2, h⟩ := hrd e hel'
      refine ⟨rg Try.prog 3 anyVal e, mem_sorted.2 (List.mem_map_of_mem hel'), ?_⟩
      rw [Go.WideElems.rg_of h]
      rw [hk'] at hk2
      simp only [Value.int.injEq, true_and] at hk2
      simp [Go.intOf, hk2]
  · unfold intKeys
    simp only []
    refine (((Go.WideShapes.sorted_perm _).map _).nodup_iff).2 ?_
    rw [List.map_map]
    refine nodup_map_of (nodup_of_map he.nodup) fun a ha b hb e => inj_on_of_nodup_map he.nodup ha hb ?_
    obtain ⟨k1, e1, h1⟩ := hrd a ha
    obtain ⟨k2, e2, h2⟩ := hrd b hb
    simp only [Function.comp, Go.WideElems.rg_of h1, Go.WideElems.rg_of h2, Go.intOf] at e
    rw [e1, e2, e]

/-! ### Remembered -/
def RemR (w : World) (x : PH) (e : Ending) (w' : World) : Prop :=
  ∃ (v' : Value) (rs : List Int), e = .returned v' ∧ w'.ownsRow w.heap.size 3 1 v' rs.length (rs.map (Value.int .i64)) ∧ rs.Pairwise (· < ·) ∧ (∀ k, k ∈ rs ↔ k ∈ x.R) ∧ rs.length ≤ 1000000 ∧ Ext w w'
theorem ext_of_below2 {w w' : World} (h : Below w.heap.size w w') : Ext w w' := Keeps.of_below h _ fun k h1 h2 => by omega
theorem sort_lt {ss : List Int} (hn : ss.Nodup) : (ss.mergeSort fun x y => decide (x ≤ y)).Pairwise (· < ·) := by
  have h2 : (ss.mergeSort fun x y => decide (x ≤ y)).Pairwise (· ≤ ·) := by
    have := List.pairwise_mergeSort (le := fun x y : Int => decide (x ≤ y)) (fun a b c h1 h2 => by simp at *; omega) (fun a b => by simp; omega) ss
    exact this.imp fun h => by simpa using h
  have h1 : (ss.mergeSort fun x y => decide (x ≤ y)).Nodup := (List.mergeSort_perm ss _).nodup_iff.2 hn
  exact (h2.and h1).imp fun ⟨a, b⟩ => by omega
def keyI (e : MapEntry) : Int := match e.key with | .int _ k => k | _ => 0
theorem nodup_lenZ {a b : List Int} (hn : a.Nodup) (hs : ∀ k ∈ a, k ∈ b) : a.length ≤ b.length := by
  induction a generalizing b with
  | nil => simp
  | cons k a ih =>
    rw [List.nodup_cons] at hn
    have hk := hs k (by simp)
    have := ih (b := b.erase k) hn.2 fun j hj => by
      have hne : j ≠ k := fun e => hn.1 (e ▸ hj)
      exact (List.mem_erase_of_ne hne).2 (hs j (by simp [hj]))
    rw [List.length_erase_of_mem hk] at this
    have := List.length_pos_of_mem hk
    simp only [List.length_cons]; omega
set_option maxRecDepth 100000 in
set_option maxHeartbeats 4000000 in
theorem Remembered_any {w : World} {base : Nat} {x : PH} (h : HRep w base x) (hi : LInv x.log) : Calls Try.prog 26 #[.pointer (some ⟨x.hp, 0, none⟩)] w (RemR w x) := by
  obtain ⟨es, ck, hm, he, hg⟩ := h.rmap
  have c9 : w.cell? ⟨x.hp, 9, none⟩ = some x.rv := (h.cell 9).trans rfl
  have hbd : ∀ e ∈ es, ∀ k, e.key = .int .i64 k → k ∈ x.R := fun e hel k hk => by
    have hge : esGet es.toList k ≠ none := fun hn => by
      obtain ⟨r, -, h2, -, h4⟩ := findNow_int es.toList (by simpa using he.key) k .i64 0
      rw [hn] at h2
      cases r with
      | none => exact h4 rfl e (by simpa using hel) hk
      | some y => simp at h2
    rw [hg k] at hge
    by_cases hR : k ∈ x.R
    · exact hR
    · rw [if_neg hR] at hge; exact (hge rfl).elim
  have hkb : ∀ k ∈ x.R, 0 ≤ k ∧ k ≤ 300000 := fun k hk => by
    obtain ⟨b, hb, e⟩ := hi.rem k hk
    have := h.ok.lok.do_.mem hb; have := h.ok.lok.uo; have := h.ok.Y0; have := h.ok.Y1; have := h.ok.O1
    have e1 : x.log.Y = x.Y := rfl
    have e2 : x.log.O = x.O := rfl
    omega
  have hsz : es.size ≤ 1000000 := by
    have hkey : ∀ e ∈ es.toList, e.key = .int .i64 (keyI e) := fun e hel => by
      obtain ⟨k, hk⟩ := he.key e (by simpa using hel)
      unfold keyI; rw [hk]
    have hnd : (es.toList.map keyI).Nodup := nodup_map_of (nodup_of_map he.nodup) fun a ha b hb e => inj_on_of_nodup_map he.nodup ha hb (by rw [hkey a ha, hkey b hb, e])
    have h1 := nodup_lenZ hnd (b := x.log.ob.map Bk.at_) fun k hk => by
      obtain ⟨e, hel, rfl⟩ := List.mem_map.1 hk
      obtain ⟨b, hb, e'⟩ := hi.rem _ (hbd e (by simpa using hel) _ (hkey e hel))
      rw [← e']; exact List.mem_map_of_mem hb
    have h2 : x.log.all.length ≤ 1000000 := by have := h.ok.all_len; rw [log_all, List.length_map]; omega
    have h3 : x.log.all.length = x.log.yb.length + x.log.ob.length := List.length_append
    simp at h1; omega
  generalize hM : RemR w x = M
  have HM := Lib.hid hM
  rcases hm with ⟨hv, hes⟩ | ⟨m, hv, hm⟩
  · rw [hv] at c9
    have hR : ∀ k, k ∉ x.R := fun k hk => by
      have := hg k; rw [hes, if_pos hk] at this; cases this
    have HR := Lib.hid hR
    clear hM hv hes hR hbd hkb hsz hg he h hi
    go_enter Try.func26, Try.ntmps26
    go_wp2_with fail
    refine (keys_call _ _).mono ?_
    rintro e w1 ⟨rfl, hw1⟩
    obtain ⟨bx, hbx⟩ : ∃ bx, w.heap.size = bx := ⟨_, rfl⟩
    have hc : w1.cell? ⟨bx, 0, none⟩ = some (.map none) := by rw [← hw1, ← hbx]; simp
    have hx1 : Ext w w1 := by rw [← hw1]; exact (Ext.refl w).alloc _
    have hb1 : bx < w1.heap.size := by rw [← hw1, ← hbx]; simp
    rw [hbx]
    have hseq : SeqGives Fence.wide 2 Try.prog 72 #[.pointer (some ⟨bx, 0, none⟩)] encZ (fun ss : List Int => ss = []) 0 w1 :=
      AnyZI.keys_gives_nil (ρ := SK.ren) { SK.keysL with } Fence.wide _ trivial rfl bx _ hb1 hc
    have cS := AnyZI.sorted_in SK.sortedL Fence.wide 5 trivial trivial trivial trivial rfl (by omega) (SK.sorts _) (enters_of Try.func47 (by kernel_rfl) rfl) 72 #[.pointer (some ⟨bx, 0, none⟩)] trivial (enters_of Try.func72 (by kernel_rfl) rfl) _ 0 (Nat.zero_le _) (by omega) _ hseq
    have HS := Lib.hid (callsIn_wide.1 cS)
    have HX1 := Lib.hid hx1
    clear hseq cS hc hb1 hw1 hx1 hbx
    change Hid (Calls Try.prog 49 _ _ _) at HS
    go_wp2_with fail
    refine HS.out.mono ?_
    rintro e w2 ⟨v, ss, rfl, rfl, hrow, hnil, hb⟩
    go_wp2
    rw [← HM.out]
    have hrow' : w2.ownsRow w1.heap.size 3 1 v 0 [] := by
      have h1 : w2.ownsRow w1.heap.size 3 1 v ([] : List Int).length ((([] : List Int).mergeSort fun x y => decide (x ≤ y)).map encZ) := hrow
      simpa using h1
    exact ⟨v, [], rfl, ownsRow_base hrow' HX1.out.size, List.Pairwise.nil, fun k => ⟨fun h => (List.not_mem_nil h).elim, fun h => (HR.out k h).elim⟩, by simp, HX1.out.trans (ext_of_below2 hb)⟩
  · rw [hv] at c9
    obtain ⟨D, hD, hDs, hDk, hDn⟩ := owns_of_es hm he hsz fun e hel k hk => by have := hkb k (hbd e hel k hk); omega
    have hDR : ∀ k, k ∈ intKeys D ↔ k ∈ x.R := fun k => by
      rw [hDk]
      constructor
      · rintro ⟨e, hel, hk⟩; exact hbd e hel k hk
      · intro hk
        have := hg k
        rw [if_pos hk] at this
        obtain ⟨e, hel, ⟨q, hq⟩, _⟩ := esGet_mem this
        obtain ⟨k', hk'⟩ := he.key e (by simpa using hel)
        rw [hk'] at hq; injection hq with q1 q2
        exact ⟨e, by simpa using hel, by rw [hk', q2]⟩
    have HDR := Lib.hid hDR
    have Hnd := Lib.hid hDn
    have hmax : Maps.size D ≤ maxLen := by rw [hDs]; unfold maxLen; omega
    have hbytes : Maps.size D * 8 ≤ 140737488355328 := by rw [hDs]; omega
    have Hsz : Hid (∀ ss : List Int, ss.Perm (intKeys D) → ss.length ≤ 1000000) := Lib.hid fun ss hp => by
      have h1 := hp.length_eq
      have h2 : (intKeys D).length = Maps.size D := by
        obtain ⟨es', ck', _, _, _, hD'⟩ := hD
        subst hD'; simp [intKeys, Maps.size]
      omega
    go_enter Try.func26, Try.ntmps26
    go_wp2_with fail
    refine (keys_call _ _).mono ?_
    rintro e w1 ⟨rfl, hw1⟩
    obtain ⟨bx, hbx⟩ : ∃ bx, w.heap.size = bx := ⟨_, rfl⟩
    have hc : w1.cell? ⟨bx, 0, none⟩ = some (.map (some m)) := by rw [← hw1, ← hbx]; simp
    have hx1 : Ext w w1 := by rw [← hw1]; exact (Ext.refl w).alloc _
    have hb1 : bx < w1.heap.size := by rw [← hw1, ← hbx]; simp
    have hD1 : w1.ownsMap Try.prog 3 anyVal m 1000000 D := by
      have hbl := hD.lt
      obtain ⟨es', ck', hb', Ft, hs', hD'⟩ := hD
      exact ⟨es', ck', (Ext.heap hx1 m hbl).trans hb', Ft, hs', hD'⟩
    rw [hbx]
    have hseq : SeqGives Fence.wide 2 Try.prog 72 #[.pointer (some ⟨bx, 0, none⟩)] encZ (fun ss : List Int => ss.Perm (intKeys D)) (Maps.size D) w1 :=
      AnyZI.keys_gives (ρ := SK.ren) { SK.keysL with } Fence.wide _ trivial rfl (by omega) bx m 1000000 D _ hb1 hc hD1
    have cS := AnyZI.sorted_in SK.sortedL Fence.wide 5 trivial trivial trivial trivial rfl (by omega) (SK.sorts _) (enters_of Try.func47 (by kernel_rfl) rfl) 72 #[.pointer (some ⟨bx, 0, none⟩)] trivial (enters_of Try.func72 (by kernel_rfl) rfl) _ _ hmax hbytes _ hseq
    have HS := Lib.hid (callsIn_wide.1 cS)
    have HX1 := Lib.hid hx1
    clear hseq cS hc hb1 hw1 hx1 hbx hD1 hD hDs hDk hDR hDn hmax hbytes hM hv hm hbd hkb hsz hg he h hi
    change Hid (Calls Try.prog 49 _ _ _) at HS
    go_wp2_with fail
    refine HS.out.mono ?_
    rintro e w2 ⟨v, ss, rfl, hS, hrow, hnil, hb⟩
    have hlen : (ss.mergeSort fun x y => decide (x ≤ y)).length = ss.length := (List.mergeSort_perm ss _).length_eq
    go_wp2
    rw [← HM.out]
    exact ⟨v, _, rfl, ownsRow_base (by rw [hlen]; exact hrow) HX1.out.size, sort_lt (hS.nodup_iff.2 Hnd.out), fun k => ((List.mergeSort_perm ss _).mem_iff.trans hS.mem_iff).trans (HDR.out k), by rw [hlen]; exact Hsz.out ss hS, HX1.out.trans (ext_of_below2 hb)⟩
end Go.Proofs.Ytikigppfnhilhaa
