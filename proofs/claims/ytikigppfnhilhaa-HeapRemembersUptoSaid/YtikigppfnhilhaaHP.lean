/- push: a block behind the others of its generation. -/
import Derived.Test.YtikigppfnhilhaaHW
import Derived.Laws.AppendOwn
import Derived.StillTailTactics
import Derived.Maps.AppendAt
import Derived.RangeFuncBox
namespace Go.Proofs.Ytikigppfnhilhaa
open Go.RowKit Go.Instr
set_option linter.unusedVariables false
set_option linter.unusedSimpArgs false

theorem info_bp : (Try.prog.info? 89).map (fun i => (i.zero, i.size, i.bytes)) = some (some (.pointer none), 1, 8) := by kernel_rfl

/-- What push leaves. -/
structure Pushed (w : World) (base hp o p : Nat) (c : Array Value) (T : TypeId) (pc : Array Value) (fi us : Int) (len : Nat) (v : Value) (n : Nat) (xs : List Value) (w' : World) (v' : Value) : Prop where
  blk : Blk w' hp ((c.setIfInBounds (o + 2) (.int .i64 (us + len + 1))).setIfInBounds (o + 3) v') T
  pb : Blk w' p (pc.setIfInBounds 0 (.int .i64 (fi + us))) 91
  row : w'.ownsRow base 89 1 v' (n + 1) (xs ++ [.pointer (some ⟨p, 0, none⟩)])
  own : ∀ k, v'.ownBlock = some k → v.ownBlock = some k ∨ w.heap.size ≤ k
  keeps : Keeps (fun k => k = hp ∨ k = p ∨ v.ownBlock = some k) w w'

set_option maxRecDepth 100000 in
set_option maxHeartbeats 1000000 in
theorem push_raw (w : World) (base hp o p : Nat) (c pc : Array Value) (T : TypeId) (hT : T ≠ 89) (hb : Blk w hp c T) (fi us : Int) (len : Nat) (v : Value) (n : Nat) (xs : List Value)
    (c0 : c[o]? = some (.int .i64 fi)) (c2 : c[o + 2]? = some (.int .i64 us)) (c3 : c[o + 3]? = some v) (hf0 : 0 ≤ fi) (hf1 : fi ≤ 100001) (hu0 : 0 ≤ us) (hu1 : us ≤ 100000)
    (hpb : Blk w p pc 91) (hsz : pc.size = 3) (a : Option Addr) (cp : Nat) (p2 : pc[2]? = some (.slice a len cp)) (hlen : len ≤ 100000) (hne : p ≠ hp) (hown : w.ownsRow base 89 1 v n xs) (hn : n ≤ 100000) (hbase : base ≤ w.heap.size) :
    Calls Try.prog 60 #[.pointer (some ⟨hp, o, none⟩), .pointer (some ⟨p, 0, none⟩)] w fun e w' => e = .returned (.tuple #[]) ∧ ∃ v', Pushed w base hp o p c T pc fi us len v n xs w' v' := by
  obtain ⟨i0, hi, hz0, hz1, hz2⟩ := info_parts info_bp
  have e0 : w.cell? ⟨hp, o, none⟩ = some (.int .i64 fi) := (hb.cell _).trans c0
  have e2 : w.cell? ⟨hp, o + 2, none⟩ = some (.int .i64 us) := (hb.cell _).trans c2
  obtain ⟨z0, q0⟩ : ∃ z, w.cell? ⟨p, 0, none⟩ = some z := ⟨pc[0], by rw [hpb.cell]; simp [hsz]⟩
  have fp := hpb.frozen 0
  have H1 := Lib.hid ((hb.far (a := ⟨p, 0, none⟩) (Ne.symm hne) (.int .i64 (fi + us))).drew)
  have H2 := Lib.hid ((hpb.set 0 (.int .i64 (fi + us))).drew)
  have H3 : Hid (((w.setCell ⟨p, 0, none⟩ (.int .i64 (fi + us))).drew).ownsRow base 89 1 v n xs) := ownsRow_set hown (a := ⟨p, 0, none⟩) hpb (by decide) _
  have HK : Hid (Keeps (fun k => k = hp ∨ k = p ∨ v.ownBlock = some k) w (w.setCell ⟨p, 0, none⟩ (.int .i64 (fi + us))).drew) := Lib.hid ((Keeps.refl _ w).setCell (p := ⟨p, 0, none⟩) (.inl (.inr (.inl rfl))) _).drew
  have Hc0 := Lib.hid c0; have Hc2 := Lib.hid c2; have Hc3 := Lib.hid c3; have Hp2 := Lib.hid p2; have Hsz := Lib.hid hsz
  clear c0 c2 c3 p2 hsz hown hb hpb
  go_enter Try.func60, Try.ntmps60
  go_wp2
  go_region
  go_wp2
  generalize (w.setCell ⟨p, 0, none⟩ (.int .i64 (fi + us))).drew = w0 at H1 H2 H3 HK ⊢
  refine wp_region_still_tail 9 (by kernel_rfl) (by kernel_rfl) ?_
  simp only [List.take_succ_cons, List.take_zero, List.drop_succ_cons, List.drop_zero]
  change wpStill _ _ w0.drew (fun a' => wpList _ _ _ _ a' w0.drew) _ _
  have H1 := Lib.hid H1.out.drew
  have H2 := Lib.hid H2.out.drew
  have H3 : Hid (w0.drew.ownsRow base 89 1 v n xs) := H3.out
  have HK := Lib.hid HK.out.drew
  generalize w0.drew = w1 at H1 H2 H3 HK ⊢
  clear e0 e2 q0 fp
  have e2 : w1.cell? ⟨hp, o + 2, none⟩ = some (.int .i64 us) := (H1.out.cell _).trans Hc2.out
  have q2 : w1.cell? ⟨p, 2, none⟩ = some (.slice a len cp) := by rw [H2.out.cell, Array.getElem?_setIfInBounds_ne (by decide)]; exact Hp2.out
  have fh := H1.out.frozen (o + 2)
  have e3 : w1.cell? ⟨hp, o + 3, none⟩ = some v := (H1.out.cell _).trans Hc3.out
  have G1 := Lib.hid (H1.out.set (o + 2) (.int .i64 (us + (len + 1))))
  have G2 := Lib.hid (H2.out.far (a := ⟨hp, o + 2, none⟩) hne (.int .i64 (us + (len + 1))))
  have G3 := Lib.hid (ownsRow_set H3.out (a := ⟨hp, o + 2, none⟩) H1.out hT (.int .i64 (us + (len + 1))))
  have GK := Lib.hid (HK.out.setCell (p := ⟨hp, o + 2, none⟩) (.inl (.inl rfl)) (.int .i64 (us + (len + 1))))
  have hbase1 : base ≤ w1.heap.size := Nat.le_trans hbase HK.out.size
  repeat still_step
  still_call (takes_raw p a len cp w1 q2 (by omega))
  repeat still_step
  refine wpStill_nil ?_
  go_wp2_with (at_builtin; refine wpList_append_fresh rfl _ _ 75 rfl base 89 i0 (.pointer none) 1 8 Try.underlying75 hi hz0 hz1 hz2 rfl (by decide) _ _ _ rfl (G3.out.alloc _) ⟨w1.heap.size, 0, none⟩ 1 1 [.pointer (some ⟨p, 0, none⟩)] rfl rfl ?c1 ?c2 ?c3 ?c4 ?c5 ?_)
  case c1 => (have := cell_one_new (w1.setCell ⟨hp, o + 2, none⟩ (.int .i64 (us + (len + 1)))) (.pointer (some ⟨p, 0, none⟩)) 89; rw [World.size_setCell] at this; exact this)
  case c2 => simp [Value.oneCell']
  case c3 => unfold maxLen; omega
  case c4 => omega
  case c5 => simp; omega
  intro v' w3 hown' hgrow hnil hfresh
  have hv : ∀ b c' t, Blk (w1.setCell ⟨hp, o + 2, none⟩ (.int .i64 (us + (len + 1)))) b c' t → t ≠ 89 → Blk w3 b c' t := by
    intro b c' t hb' ht
    refine (hgrow.block b (by have := hb'.lt; simp at this ⊢; omega) ?_).trans (hb'.alloc _)
    intro e
    obtain ⟨cur, hc⟩ := ownsRow_type G3.out e.symm
    exact ht ((by
      unfold Blk at hc hb'; rw [hc] at hb'; injection hb' with hb'; injection hb' with _ h1; exact h1.symm) : t = 89)
  have F1 := Lib.hid (hv _ _ _ G1.out hT)
  have F2 := Lib.hid (hv _ _ _ G2.out (by decide))
  obtain ⟨g', cap', rfl⟩ := ownsRow_succ hown'
  have FK : Hid (Keeps (fun k => k = hp ∨ k = p ∨ v.ownBlock = some k) w w3) := Lib.hid ((GK.out.alloc _).grown hgrow fun k e => .inl (.inr (.inr e)))
  have FO : Hid (∀ k, (Value.slice (some ⟨g', 0, none⟩) (n + 1) cap').ownBlock = some k → v.ownBlock = some k ∨ w.heap.size ≤ k) := fun k hk => (hfresh k hk).imp id fun h => by have := HK.out.size; omega
  have Hown := Lib.hid hown'
  have e3' : w3.cell? ⟨hp, o + 3, none⟩ = some v := by
    rw [F1.out.cell, Array.getElem?_setIfInBounds_ne (by omega)]; exact Hc3.out
  have fh' := F1.out.frozen (o + 3)
  clear hfresh hown' hgrow hnil hv G1 G2 G3 GK H1 H2 H3 HK e2 q2 fh e3 hbase1
  go_wp2
  go_end0
  refine ⟨rfl, _, ⟨?_, F2.out.far hne _, ?_, FO.out, FK.out.setCell (p := ⟨hp, o + 3, none⟩) (.inl (.inl rfl)) _⟩⟩
  · have := F1.out.set (o + 3) (.slice (some ⟨g', 0, none⟩) (n + 1) cap')
    rwa [← Int.add_assoc] at this
  · exact ownsRow_set Hown.out (a := ⟨hp, o + 3, none⟩) F1.out hT _
end Go.Proofs.Ytikigppfnhilhaa
