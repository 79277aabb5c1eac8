/- into, young, right, Block, Load of the reference. -/
import Derived.Test.YtikigppfnhilhaaGPD33
import Derived.Laws.AppendOwnNone
/- into, young, right, Block, Load of the reference. -/
namespace Go.Proofs.Ytikigppfnhilhaa
open Go.RowKit Go.Instr
set_option linter.unusedVariables false
set_option linter.unusedSimpArgs false
attribute [local go_sem] Oper.semAt_some

/-! ### into -/
structure IntoOk (zs : List Int) (n : Int) (zs' : List Int) : Prop where
  sorted : zs'.Pairwise (· < ·)
  mem : ∀ k, k ∈ zs' ↔ k = n ∨ k ∈ zs
  len : zs'.length = if n ∈ zs then zs.length else zs.length + 1
theorem into_ins {zs : List Int} (hs : zs.Pairwise (· < ·)) {n : Int} {k : Nat} (h1 : ∀ z ∈ zs.take k, z < n) (h2 : ∀ z ∈ zs.drop k, n < z) : IntoOk zs n (zs.take k ++ [n] ++ zs.drop k) := by
  have hn : n ∉ zs := fun hm => by
    rw [← List.take_append_drop k zs] at hm
    rcases List.mem_append.1 hm with hm | hm
    · have := h1 n hm; omega
    · have := h2 n hm; omega
  have hs2 := hs
  rw [← List.take_append_drop k zs, List.pairwise_append] at hs2
  obtain ⟨p1, p2, p3⟩ := hs2
  refine ⟨?_, fun j => ?_, ?_⟩
  · rw [List.pairwise_append, List.pairwise_append]
    refine ⟨⟨p1, by simp, fun a ha b hb => ?_⟩, p2, fun a ha b hb => ?_⟩
    · simp at hb; rw [hb]; exact h1 a ha
    · rcases List.mem_append.1 ha with ha | ha
      · exact p3 a ha b hb
      · simp at ha; rw [ha]; exact h2 b hb
  · conv => rhs; rw [← List.take_append_drop k zs]
    simp only [List.mem_append, List.mem_singleton]
    constructor
    · rintro ((h | h) | h) <;> simp [h]
    · rintro (h | h | h) <;> simp [h]
  · rw [if_neg hn]
    simp only [List.length_append, List.length_cons, List.length_nil, List.length_take, List.length_drop]; omega
theorem into_has {zs : List Int} (hs : zs.Pairwise (· < ·)) {n : Int} (hn : n ∈ zs) : IntoOk zs n zs :=
  ⟨hs, fun k => ⟨.inr, fun h => h.elim (fun e => e ▸ hn) id⟩, by rw [if_pos hn]⟩
def IntoR (w : World) (v : Value) (zs : List Int) (n : Int) (e : Ending) (w' : World) : Prop :=
  ∃ v' zs', e = .returned v' ∧ IntoOk zs n zs' ∧ ((v' = v ∧ zs' = zs) ∨ w'.ownsRow w.heap.size 3 1 v' zs'.length (zs'.map (Value.int .i64))) ∧ Ext w w'
theorem drop_gt {zs : List Int} (hs : zs.Pairwise (· < ·)) {k : Nat} {z n : Int} (hz : zs[k]? = some z) (hn : n < z) : ∀ y ∈ zs.drop k, n < y := by
  intro y hy
  obtain ⟨hk, e⟩ := List.getElem?_eq_some_iff.1 hz
  rw [List.drop_eq_getElem_cons hk, e] at hy
  rcases List.mem_cons.1 hy with rfl | hy
  · exact hn
  · obtain ⟨j, hj, e2⟩ := List.getElem_of_mem hy
    rw [List.getElem_drop] at e2
    have := List.pairwise_iff_getElem.1 hs k (k + 1 + j) hk (by simp at hj; omega) (by omega)
    rw [e, e2] at this; omega
theorem intOne (zs : List Int) : ∀ u ∈ zs.map (Value.int .i64), u.oneCell' = true := fun u hu => by
  obtain ⟨z, _, rfl⟩ := List.mem_map.1 hu; rfl
set_option maxRecDepth 100000 in
set_option maxHeartbeats 8000000 in
theorem Rinto_any {w : World} {base : Nat} {v : Value} {zs : List Int} (h : w.ownsRow base 3 1 v zs.length (zs.map (Value.int .i64))) (hs : zs.Pairwise (· < ·)) (hl : zs.length ≤ 1000000) (n : Int) :
    Calls Try.prog 76 #[v, .int .i64 n] w (IntoR w v zs n) := by
  have HR := Lib.hid h
  generalize hM : IntoR w v zs n = M
  have HM := Lib.hid hM
  have Hs := Lib.hid hs
  obtain ⟨i0, hi, hz0, hz1, hz2⟩ := info_parts info_intG
  rcases h.2 with ⟨rfl, hz⟩ | ⟨g, cap, cur, rfl, hbase, hgb, hnc, hcm, hcs, htake⟩
  · have hzs : zs = [] := List.eq_nil_of_length_eq_zero hz
    subst hzs
    clear hM h hs hz
    go_enter Try.func76, Try.ntmps76
    go_wp2_with fail
    go_loopw [5] (fun i wr => i = .int .i64 0 ∧ wr = w) (fun i wr => 0)
    case atStart => exact ⟨rfl, rfl⟩
    case round =>
      obtain ⟨rfl, rfl⟩ := hrel
      go_wp2_with (at_builtin; first | refine wpList_append_own_none rfl _ _ 52 rfl _ 3 i0 1 Try.underlying52 hi _ 0 [] rfl (World.ownsRow_nil wr wr.heap.size 3 1) rfl ?_ | refine wpList_append_fresh rfl _ _ 52 rfl wr.heap.size 3 i0 _ 1 8 Try.underlying52 hi hz0 hz1 hz2 rfl (by decide) _ 0 [] rfl (World.ownsRow_nil _ wr.heap.size 3 1) ⟨wr.heap.size, 0, none⟩ 1 _ [Value.int .i64 n] rfl rfl (cell_one_new wr (.int .i64 n) 3) (intOne [n]) (by unfold maxLen; omega) (by omega) (by simp) ?_)
      intro v' w6 hown hgrow hnil hfresh
      have HX6 : Hid (Ext wr w6) := Lib.hid (((Ext.refl wr).alloc _).grown hgrow fun j e => by simp [Value.ownBlock] at e)
      have Hown := Lib.hid hown
      clear hown hgrow hnil hfresh
      go_wp2_with (at_builtin; refine wpList_append_own_none rfl _ _ 52 rfl _ 3 i0 1 Try.underlying52 hi _ 1 [Value.int .i64 n] rfl Hown.out rfl ?_)
      rw [← HM.out]
      exact ⟨_, [n], rfl, into_ins (zs := []) (k := 0) Hs.out (by simp) (by simp), .inr Hown.out, HX6.out⟩
  · clear hM h hs hgb hcm hcs htake hbase
    go_enter Try.func76, Try.ntmps76
    go_wp2_with fail
    go_loopw [5] (fun i wr => ∃ k : Nat, k ≤ zs.length ∧ i = .int .i64 k ∧ Hid (∀ z ∈ zs.take k, z < n) ∧ wr = w) (fun i wr => zs.length - (intOf i).toNat)
    case atStart => exact ⟨0, Nat.zero_le _, rfl, Lib.hid (by simp), rfl⟩
    case round =>
      obtain ⟨k, hk, rfl, HT, rfl⟩ := hrel
      by_cases hlt : k < zs.length
      · obtain ⟨z, hz⟩ : ∃ z, zs[k]? = some z := ⟨_, List.getElem?_eq_getElem hlt⟩
        obtain ⟨g', c', e, d0⟩ := ownI_getR HR.out hz
        injection e with e e2 e3; injection e with e; injection e with e e4 e5; subst e; clear e2 e3 e4 e5
        have Hz := Lib.hid hz
        clear hz
        by_cases hzn : z < n
        · have Hzn := Lib.hid hzn
          go_wp2_with fail
          exact ⟨⟨k + 1, by omega, by simp, Lib.hid (by
            rw [List.take_add_one, Hz.out]
            intro c hc
            rcases List.mem_append.1 hc with hc | hc
            · exact HT.out c hc
            · simp at hc; rw [hc]; exact Hzn.out), trivial⟩, by simp only [intOf]; omega⟩
        · by_cases he : z = n
          · have Hm : Hid (n ∈ zs) := Lib.hid (by rw [← he]; exact List.mem_of_getElem? Hz.out)
            subst he
            go_wp2_with fail
            rw [← HM.out]
            exact ⟨_, zs, rfl, into_has Hs.out Hm.out, .inl ⟨rfl, rfl⟩, Ext.refl _⟩
          · have he' : (z == n) = false := by simpa using he
            have Hgt := Lib.hid (drop_gt Hs.out Hz.out (show n < z by omega))
            clear he
            have Hc1 : Hid (∀ j u, ((zs.take k).map (Value.int .i64))[j]? = some u → wr.cell? ((⟨g, 0, none⟩ : Addr).add j) = some u) := Lib.hid fun j u hu => by
              have h1 := HR.out.cells (g := g) rfl j u
              refine h1 ?_
              rw [List.getElem?_map] at hu ⊢
              obtain ⟨z, hz, e⟩ := Option.map_eq_some_iff.1 hu
              rw [List.getElem?_take] at hz
              split at hz
              · rw [hz]; exact congrArg some e
              · cases hz
            have Hc3 : Hid (∀ j u, ((zs.drop k).map (Value.int .i64))[j]? = some u → wr.cell? ((⟨g, k, none⟩ : Addr).add j) = some u) := Lib.hid fun j u hu => by
              have h1 := HR.out.cells (g := g) rfl (k + j) u
              have e1 : (⟨g, k, none⟩ : Addr).add j = (⟨g, 0, none⟩ : Addr).add (k + j) := by unfold Addr.add; split <;> split <;> simp_all
              rw [e1]
              refine h1 ?_
              rw [List.getElem?_map, List.getElem?_drop] at hu
              rw [List.getElem?_map]; exact hu
            go_wp2_with (at_builtin; refine wpList_append_fresh rfl _ _ 52 rfl wr.heap.size 3 i0 _ 1 8 Try.underlying52 hi hz0 hz1 hz2 rfl (by decide) _ 0 [] rfl (World.ownsRow_nil wr wr.heap.size 3 1) ⟨g, 0, none⟩ k _ ((zs.take k).map (Value.int .i64)) rfl (by simp; omega) Hc1.out (intOne _) (by unfold maxLen; omega) (by omega) (Nat.le_refl _) ?_)
            intro v1 w5 hown hgrow hnil hfresh
            have HX5 : Hid (Ext wr w5) := Lib.hid ((Ext.refl wr).grown hgrow fun j e => by simp [Value.ownBlock] at e)
            have Ho5 : Hid (w5.ownsRow wr.heap.size 3 1 v1 k ((zs.take k).map (Value.int .i64))) := Lib.hid (by have := hown; simpa using this)
            clear hown hgrow hnil hfresh
            have hs5 := HX5.out.size
            go_wp2_with (at_builtin; refine wpList_append_fresh rfl _ _ 52 rfl wr.heap.size 3 i0 _ 1 8 Try.underlying52 hi hz0 hz1 hz2 rfl (by decide) _ k ((zs.take k).map (Value.int .i64)) rfl (own_ext Ho5.out ((Ext.refl w5).alloc _)) ⟨w5.heap.size, 0, none⟩ 1 _ [Value.int .i64 n] rfl rfl (cell_one_new w5 (.int .i64 n) 3) (intOne [n]) (by unfold maxLen; omega) (by omega) (by simp; omega) ?_)
            intro v2 w6 hown hgrow hnil hfresh
            have HX6 : Hid (Ext wr w6) := Lib.hid ((HX5.out.alloc _).grown hgrow fun j e => .inr (Ho5.out.lt j e).1)
            have Ho6 : Hid (w6.ownsRow wr.heap.size 3 1 v2 (k + 1) ((zs.take k).map (Value.int .i64) ++ [Value.int .i64 n])) := Lib.hid (by have := hown; simpa using this)
            clear hown hgrow hnil hfresh hs5
            have hs6 := HX6.out.size
            by_cases hck : k = cap
            · subst hck
              go_wp2_with (at_builtin; refine (fun h => h trivial : (True → _) → _) ?_)
              intro _
              refine wpList_append_fresh rfl _ _ 52 rfl wr.heap.size 3 i0 _ 1 8 Try.underlying52 hi hz0 hz1 hz2 rfl (by decide) _ (k + 1) ((zs.take k).map (Value.int .i64) ++ [Value.int .i64 n]) rfl Ho6.out ⟨g, 0, none⟩ 0 _ [] rfl rfl (fun j u hu => by simp at hu) (intOne []) (by unfold maxLen; omega) (by omega) hs6 ?_
              intro v3 w7 hown hgrow hnil hfresh
              have HX7 : Hid (Ext wr w7) := Lib.hid (HX6.out.grown hgrow fun j e => .inr (Ho6.out.lt j e).1)
              have Ho7 : Hid (w7.ownsRow wr.heap.size 3 1 v3 (zs.take k ++ [n] ++ zs.drop k).length ((zs.take k ++ [n] ++ zs.drop k).map (Value.int .i64))) := Lib.hid (by
                have := hown
                have e2 : zs.drop k = [] := List.drop_eq_nil_of_le (by omega)
                have e1 : (zs.take k ++ [n] ++ zs.drop k).length = k + 1 + (zs.length - k) := by simp; omega
                rw [e1, e2]; have e3 : zs.length - k = 0 := by omega
                rw [e3]; simpa using this)
              clear hown hgrow hnil hfresh hs6
              go_wp2_with fail
              rw [← HM.out]
              exact ⟨_, _, rfl, into_ins Hs.out HT.out Hgt.out, .inr Ho7.out, HX7.out⟩
            · have hck1 : k < cap := by omega
              have hck2 : cap - k ≠ 0 := by omega
              go_wp2_with (at_builtin; refine (fun h => h trivial : (True → _) → _) ?_)
              intro _
              refine wpList_append_fresh rfl _ _ 52 rfl wr.heap.size 3 i0 _ 1 8 Try.underlying52 hi hz0 hz1 hz2 rfl (by decide) _ (k + 1) ((zs.take k).map (Value.int .i64) ++ [Value.int .i64 n]) rfl Ho6.out ⟨g, k, none⟩ (zs.length - k) _ ((zs.drop k).map (Value.int .i64)) rfl (by simp) (fun j u hu => Ext.cell HX6.out (Hc3.out j u hu)) (intOne _) (by unfold maxLen; omega) (by omega) hs6 ?_
              intro v3 w7 hown hgrow hnil hfresh
              have HX7 : Hid (Ext wr w7) := Lib.hid (HX6.out.grown hgrow fun j e => .inr (Ho6.out.lt j e).1)
              have Ho7 : Hid (w7.ownsRow wr.heap.size 3 1 v3 (zs.take k ++ [n] ++ zs.drop k).length ((zs.take k ++ [n] ++ zs.drop k).map (Value.int .i64))) := Lib.hid (by
                have := hown
                have e1 : (zs.take k ++ [n] ++ zs.drop k).length = k + 1 + (zs.length - k) := by simp; omega
                rw [e1]; simpa using this)
              clear hown hgrow hnil hfresh hs6
              go_wp2_with fail
              rw [← HM.out]
              exact ⟨_, _, rfl, into_ins Hs.out HT.out Hgt.out, .inr Ho7.out, HX7.out⟩
      · have Hgt : Hid (∀ y ∈ zs.drop k, n < y) := Lib.hid (by rw [List.drop_eq_nil_of_le (by omega)]; simp)
        have Hc1 : Hid (∀ j u, ((zs.take k).map (Value.int .i64))[j]? = some u → wr.cell? ((⟨g, 0, none⟩ : Addr).add j) = some u) := Lib.hid fun j u hu => by
          have h1 := HR.out.cells (g := g) rfl j u
          refine h1 ?_
          rw [List.getElem?_map] at hu ⊢
          obtain ⟨z, hz, e⟩ := Option.map_eq_some_iff.1 hu
          rw [List.getElem?_take] at hz
          split at hz
          · rw [hz]; exact congrArg some e
          · cases hz
        have Hc3 : Hid (∀ j u, ((zs.drop k).map (Value.int .i64))[j]? = some u → wr.cell? ((⟨g, k, none⟩ : Addr).add j) = some u) := Lib.hid fun j u hu => by
          have h1 := HR.out.cells (g := g) rfl (k + j) u
          have e1 : (⟨g, k, none⟩ : Addr).add j = (⟨g, 0, none⟩ : Addr).add (k + j) := by unfold Addr.add; split <;> split <;> simp_all
          rw [e1]
          refine h1 ?_
          rw [List.getElem?_map, List.getElem?_drop] at hu
          rw [List.getElem?_map]; exact hu
        go_wp2_with (at_builtin; refine wpList_append_fresh rfl _ _ 52 rfl wr.heap.size 3 i0 _ 1 8 Try.underlying52 hi hz0 hz1 hz2 rfl (by decide) _ 0 [] rfl (World.ownsRow_nil wr wr.heap.size 3 1) ⟨g, 0, none⟩ k _ ((zs.take k).map (Value.int .i64)) rfl (by simp; omega) Hc1.out (intOne _) (by unfold maxLen; omega) (by omega) (Nat.le_refl _) ?_)
        intro v1 w5 hown hgrow hnil hfresh
        have HX5 : Hid (Ext wr w5) := Lib.hid ((Ext.refl wr).grown hgrow fun j e => by simp [Value.ownBlock] at e)
        have Ho5 : Hid (w5.ownsRow wr.heap.size 3 1 v1 k ((zs.take k).map (Value.int .i64))) := Lib.hid (by have := hown; simpa using this)
        clear hown hgrow hnil hfresh
        have hs5 := HX5.out.size
        go_wp2_with (at_builtin; refine wpList_append_fresh rfl _ _ 52 rfl wr.heap.size 3 i0 _ 1 8 Try.underlying52 hi hz0 hz1 hz2 rfl (by decide) _ k ((zs.take k).map (Value.int .i64)) rfl (own_ext Ho5.out ((Ext.refl w5).alloc _)) ⟨w5.heap.size, 0, none⟩ 1 _ [Value.int .i64 n] rfl rfl (cell_one_new w5 (.int .i64 n) 3) (intOne [n]) (by unfold maxLen; omega) (by omega) (by simp; omega) ?_)
        intro v2 w6 hown hgrow hnil hfresh
        have HX6 : Hid (Ext wr w6) := Lib.hid ((HX5.out.alloc _).grown hgrow fun j e => .inr (Ho5.out.lt j e).1)
        have Ho6 : Hid (w6.ownsRow wr.heap.size 3 1 v2 (k + 1) ((zs.take k).map (Value.int .i64) ++ [Value.int .i64 n])) := Lib.hid (by have := hown; simpa using this)
        clear hown hgrow hnil hfresh hs5
        have hs6 := HX6.out.size
        by_cases hck : k = cap
        · subst hck
          go_wp2_with (at_builtin; refine (fun h => h trivial : (True → _) → _) ?_)
          intro _
          refine wpList_append_fresh rfl _ _ 52 rfl wr.heap.size 3 i0 _ 1 8 Try.underlying52 hi hz0 hz1 hz2 rfl (by decide) _ (k + 1) ((zs.take k).map (Value.int .i64) ++ [Value.int .i64 n]) rfl Ho6.out ⟨g, 0, none⟩ 0 _ [] rfl rfl (fun j u hu => by simp at hu) (intOne []) (by unfold maxLen; omega) (by omega) hs6 ?_
          intro v3 w7 hown hgrow hnil hfresh
          have HX7 : Hid (Ext wr w7) := Lib.hid (HX6.out.grown hgrow fun j e => .inr (Ho6.out.lt j e).1)
          have Ho7 : Hid (w7.ownsRow wr.heap.size 3 1 v3 (zs.take k ++ [n] ++ zs.drop k).length ((zs.take k ++ [n] ++ zs.drop k).map (Value.int .i64))) := Lib.hid (by
            have := hown
            have e2 : zs.drop k = [] := List.drop_eq_nil_of_le (by omega)
            have e1 : (zs.take k ++ [n] ++ zs.drop k).length = k + 1 + (zs.length - k) := by simp; omega
            rw [e1, e2]; have e3 : zs.length - k = 0 := by omega
            rw [e3]; simpa using this)
          clear hown hgrow hnil hfresh hs6
          go_wp2_with fail
          rw [← HM.out]
          exact ⟨_, _, rfl, into_ins Hs.out HT.out Hgt.out, .inr Ho7.out, HX7.out⟩
        · have hck1 : k < cap := by omega
          have hck2 : cap - k ≠ 0 := by omega
          go_wp2_with (at_builtin; refine (fun h => h trivial : (True → _) → _) ?_)
          intro _
          refine wpList_append_fresh rfl _ _ 52 rfl wr.heap.size 3 i0 _ 1 8 Try.underlying52 hi hz0 hz1 hz2 rfl (by decide) _ (k + 1) ((zs.take k).map (Value.int .i64) ++ [Value.int .i64 n]) rfl Ho6.out ⟨g, k, none⟩ (zs.length - k) _ ((zs.drop k).map (Value.int .i64)) rfl (by simp) (fun j u hu => Ext.cell HX6.out (Hc3.out j u hu)) (intOne _) (by unfold maxLen; omega) (by omega) hs6 ?_
          intro v3 w7 hown hgrow hnil hfresh
          have HX7 : Hid (Ext wr w7) := Lib.hid (HX6.out.grown hgrow fun j e => .inr (Ho6.out.lt j e).1)
          have Ho7 : Hid (w7.ownsRow wr.heap.size 3 1 v3 (zs.take k ++ [n] ++ zs.drop k).length ((zs.take k ++ [n] ++ zs.drop k).map (Value.int .i64))) := Lib.hid (by
            have := hown
            have e1 : (zs.take k ++ [n] ++ zs.drop k).length = k + 1 + (zs.length - k) := by simp; omega
            rw [e1]; simpa using this)
          clear hown hgrow hnil hfresh hs6
          go_wp2_with fail
          rw [← HM.out]
          exact ⟨_, _, rfl, into_ins Hs.out HT.out Hgt.out, .inr Ho7.out, HX7.out⟩
end Go.Proofs.Ytikigppfnhilhaa
