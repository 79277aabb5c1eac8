/- slices.Sort over ints: the shelf's contract, laid at this program. Reach: what is reached, in order. -/
import Derived.Shelf.Sort.Plain
import Derived.Shelf.Slices.In.SortNone
import Derived.Test.YtikigppfnhilhaaProg
import Derived.Test.YtikigppfnhilhaaGPD22
import Derived.Sort.OwnSortedInts
/- slices.Sort over ints: the shelf's contract, laid at this program. -/
namespace Go.Proofs.Ytikigppfnhilhaa
open Go.Shelf
def SO.lays189_ren : Go.Shelf.Ren := ⟨fun | 189 => 47 | 125 => 70 | 257 => 69 | 128 => 92 | 129 => 93 | 294 => 83 | 295 => 84 | 296 => 85 | 297 => 86 | 298 => 87 | 299 => 88 | 216 => 89 | 300 => 90 | 301 => 91 | 328 => 100 | 329 => 101 | 330 => 102 | 331 => 103 | 332 => 104 | 215 => 105 | 343 => 107 | n => n, fun | 28 => 52 | 3 => 3 | 46 => 123 | 0 => 0 | 51 => 140 | 53 => 142 | 4 => 4 | 183 => 132 | 182 => 131 | 131 => 137 | 5 => 5 | 9 => 9 | 218 => 148 | 222 => 152 | 228 => 155 | 229 => 55 | n => n, fun | n => n⟩
theorem SO.lays189 : Go.Proofs.Lays.n189 Try.prog SO.lays189_ren := {
  mixed := by kernel_rfl
  f125 := Try.func70.trans (congrArg some (by kernel_rfl))
  f128 := Try.func92.trans (congrArg some (by kernel_rfl))
  f129 := Try.func93.trans (congrArg some (by kernel_rfl))
  f189 := Try.func47.trans (congrArg some (by kernel_rfl))
  f215 := Try.func105.trans (congrArg some (by kernel_rfl))
  f216 := Try.func89.trans (congrArg some (by kernel_rfl))
  f257 := Try.func69.trans (congrArg some (by kernel_rfl))
  f294 := Try.func83.trans (congrArg some (by kernel_rfl))
  f295 := Try.func84.trans (congrArg some (by kernel_rfl))
  f296 := Try.func85.trans (congrArg some (by kernel_rfl))
  f297 := Try.func86.trans (congrArg some (by kernel_rfl))
  f298 := Try.func87.trans (congrArg some (by kernel_rfl))
  f299 := Try.func88.trans (congrArg some (by kernel_rfl))
  f300 := Try.func90.trans (congrArg some (by kernel_rfl))
  f301 := Try.func91.trans (congrArg some (by kernel_rfl))
  f328 := Try.func100.trans (congrArg some (by kernel_rfl))
  f329 := Try.func101.trans (congrArg some (by kernel_rfl))
  f330 := Try.func102.trans (congrArg some (by kernel_rfl))
  f331 := Try.func103.trans (congrArg some (by kernel_rfl))
  f332 := Try.func104.trans (congrArg some (by kernel_rfl))
  f343 := Try.func107.trans (congrArg some (by kernel_rfl))
  t0 := Try.underlying0
  a0 := Try.isAgg0
  z0 := Try.sizeOf0
  v0 := Try.zeroValue0
  t3 := Try.underlying3
  a3 := Try.isAgg3
  z3 := Try.sizeOf3
  v3 := Try.zeroValue3
  t4 := Try.underlying4
  a4 := Try.isAgg4
  z4 := Try.sizeOf4
  v4 := Try.zeroValue4
  t5 := Try.underlying5
  a5 := Try.isAgg5
  z5 := Try.sizeOf5
  v5 := Try.zeroValue5
  t9 := Try.underlying9
  a9 := Try.isAgg9
  z9 := Try.sizeOf9
  v9 := Try.zeroValue9
  t28 := Try.underlying52
  a28 := Try.isAgg52
  z28 := Try.sizeOf52
  v28 := Try.zeroValue52
  t46 := Try.underlying123
  a46 := Try.isAgg123
  z46 := Try.sizeOf123
  v46 := Try.zeroValue123
  t51 := Try.underlying140
  a51 := Try.isAgg140
  z51 := Try.sizeOf140
  v51 := Try.zeroValue140
  t53 := Try.underlying142
  a53 := Try.isAgg142
  z53 := Try.sizeOf142
  v53 := Try.zeroValue142
  t131 := Try.underlying137
  a131 := Try.isAgg137
  z131 := Try.sizeOf137
  v131 := Try.zeroValue137
  t182 := Try.underlying131
  a182 := Try.isAgg131
  z182 := Try.sizeOf131
  v182 := Try.zeroValue131
  t183 := Try.underlying132
  a183 := Try.isAgg132
  z183 := Try.sizeOf132
  v183 := Try.zeroValue132
  t218 := Try.underlying148
  a218 := Try.isAgg148
  z218 := Try.sizeOf148
  v218 := Try.zeroValue148
  t222 := Try.underlying152
  a222 := Try.isAgg152
  z222 := Try.sizeOf152
  v222 := Try.zeroValue152
  t228 := Try.underlying155
  a228 := Try.isAgg155
  z228 := Try.sizeOf155
  v228 := Try.zeroValue155
  t229 := Try.underlying55
  a229 := Try.isAgg55
  z229 := Try.sizeOf55
  v229 := Try.zeroValue55 }
open Go.Sort Go.RowKit in
theorem SO.slices_Sort_int (blk off cap : Nat) (zs : List Int) (w : World) (hH : Holds (Value.int .i64) w blk off zs.toArray) (hblk : blk < w.heap.size) (hsz : zs.length < 4611686018427387904) :
    Calls Try.prog 47 #[.slice (some ⟨blk, off, none⟩) zs.length cap] w fun e w' =>
      e = .returned (.tuple #[]) ∧ ∃ n os, w' = grow (putRow (Value.int .i64) (Sort.ahead w n) blk off (zs.mergeSort fun x y => decide (x ≤ y)).toArray) os := Any.slices_Sort_int SO.lays189 blk off cap zs w hH hblk hsz
open Go.RowKit Go.Sort in
/-- .. and plain. (LAID: no walk: one application.) -/
theorem SO.slices_Sort_int_none (p : Option Addr) (cap : Nat) (w : World) :
    Calls Try.prog 47 #[.slice p 0 cap] w fun e w' => e = .returned (.tuple #[]) ∧ w' = w := Any.slices_Sort_int_none SO.lays189 p cap w
end Go.Proofs.Ytikigppfnhilhaa
/- Reach: what is reached, in order. -/
namespace Go.Proofs.Ytikigppfnhilhaa
open Go.RowKit Go.Instr Go.Sort Go.Shelf
set_option linter.unusedVariables false
set_option linter.unusedSimpArgs false

theorem info_intG : (Try.prog.info? 3).map (fun i => (i.zero, i.size, i.bytes)) = some (some (.int .i64 0), 1, 8) := by kernel_rfl
/-- slices.Sort of a row of one's own. -/
theorem sort_own {w : World} {base : Nat} {v : Value} {zs : List Int} (h : w.ownsRow base 3 1 v zs.length (zs.map (Value.int .i64))) (hb : base ≤ w.heap.size) (hn : zs.length ≤ 1000000) :
    Calls Try.prog 47 #[v] w fun e w' => e = .returned (.tuple #[]) ∧ w'.ownsRow base 3 1 v zs.length ((zs.mergeSort fun x y => decide (x ≤ y)).map (Value.int .i64)) ∧ Below base w w' := by
  rcases h.2 with ⟨rfl, hz⟩ | ⟨gb, cap, cur, rfl, hbase, hgb, r1, r2, r3, r4⟩
  · have hss : zs = [] := List.eq_nil_of_length_eq_zero hz
    subst hss
    refine (SO.slices_Sort_int_none none 0 w).mono ?_
    rintro e w' ⟨rfl, rfl⟩
    exact ⟨rfl, by simpa using World.ownsRow_nil w' base 3 1, Below.refl _ _⟩
  · have hH : Holds (Value.int .i64) w gb 0 zs.toArray := holds_of_blockI hgb (by simpa using r4)
    have hgl : gb < w.heap.size := (Array.getElem?_eq_some_iff.1 hgb).1
    refine (SO.slices_Sort_int gb 0 cap zs w hH hgl (by omega)).mono ?_
    rintro e w' ⟨rfl, nn, os, rfl⟩
    exact ⟨rfl, ownsRow_sortedI (by simp) hbase hgb r1 r2 r3, (Below.refl base w).grown (grownBy_sortedI _) hb (fun j hj => by cases hj; exact hbase)⟩

/-! ### What is reached, in order -/
noncomputable def LH.reach (h : LH) (roots : List Wd) : List Int := (h.all.filter (h.keep (fun _ => true) roots)).map Bk.at_
noncomputable def LH.reachB (h : LH) (roots : List Wd) : List Int := if roots.any h.bad then [] else h.reach roots
theorem dense_lt {f : Int} {l : List Bk} (h : Dense f l) : (l.map Bk.at_).Pairwise (· < ·) := by
  induction l generalizing f with
  | nil => exact List.Pairwise.nil
  | cons b l ih =>
    rw [List.map_cons, List.pairwise_cons]
    refine ⟨fun a ha => ?_, ih h.2⟩
    obtain ⟨c, hc, rfl⟩ := List.mem_map.1 ha
    have := h.2.mem hc; have := h.1; omega
theorem PH.Ok.all_lt {x : PH} (h : x.Ok) : (x.log.all.map Bk.at_).Pairwise (· < ·) := by
  unfold LH.all
  rw [List.map_append, List.pairwise_append]
  refine ⟨dense_lt h.dy, dense_lt h.do_, fun a ha b hb => ?_⟩
  obtain ⟨c, hc, rfl⟩ := List.mem_map.1 ha
  obtain ⟨d, hd, rfl⟩ := List.mem_map.1 hb
  have h1 := Dense.mem h.dy hc; have h2 := Dense.mem h.do_ hd
  have h3 : bused (x.yb.map PB.b) ≤ x.Y := by have := h.yu; have := h.yu1; omega
  have h4 : c.ws.length ≥ 0 := Nat.zero_le _
  have : bused x.log.yb = bused (x.yb.map PB.b) := rfl
  have : x.log.yb = x.yb.map PB.b := rfl
  have : (c.at_ : Int) + c.ws.length + 1 ≤ 1 + bused (x.yb.map PB.b) := h1.2
  have : x.Y + 1 ≤ d.at_ := h2.1
  omega
theorem reach_lt {x : PH} (h : x.Ok) (roots : List Wd) : (x.log.reach roots).Pairwise (· < ·) :=
  List.Pairwise.sublist (List.Sublist.map Bk.at_ List.filter_sublist) h.all_lt
theorem sorted_eq {zs L : List Int} (hp : zs.Perm L) (hL : L.Pairwise (· < ·)) : (zs.mergeSort fun x y => decide (x ≤ y)) = L := by
  have h1 : (zs.mergeSort fun x y => decide (x ≤ y)).Perm L := (List.mergeSort_perm zs _).trans hp
  have h2 : (zs.mergeSort fun x y => decide (x ≤ y)).Pairwise (· ≤ ·) := by
    have := List.pairwise_mergeSort (le := fun x y : Int => decide (x ≤ y)) (fun a b c h1 h2 => by simp at *; omega) (fun a b => by simp; omega) zs
    exact this.imp fun h => by simpa using h
  exact h1.eq_of_pairwise (fun a b _ _ h1 h2 => by omega) h2 (hL.imp fun h => by omega)

def ReachR (w : World) (x : PH) (roots : List Wd) (e : Ending) (w' : World) : Prop :=
  ∃ v', e = .returned (.tuple #[v', .int .i64 (if roots.any x.log.bad = true then 1 else 0)]) ∧ w'.ownsRow w.heap.size 3 1 v' (x.log.reachB roots).length ((x.log.reachB roots).map (Value.int .i64)) ∧ Ext w w'
set_option maxRecDepth 100000 in
set_option maxHeartbeats 4000000 in
theorem Reach_any {w : World} {base : Nat} {x : PH} (h : HRep w base x) {v : Value} {roots : List Wd} (hr : RdW w v roots) (hl : roots.length ≤ 1048576) :
    Calls Try.prog 22 #[.pointer (some ⟨x.hp, 0, none⟩), v] w (ReachR w x roots) := by
  have HV := Lib.hid (valid_any h hr (by omega))
  rw [any_log] at HV
  have Hr := Lib.hid hr
  generalize hM : ReachR w x roots = M
  have HM := Lib.hid hM
  clear hr hM
  go_enter Try.func22, Try.ntmps22
  go_wp2_with fail
  refine HV.out.mono ?_
  rintro e w1 ⟨rfl, hx1⟩
  have HX1 := Lib.hid hx1
  clear hx1
  by_cases hb : roots.any x.log.bad = true
  · rw [hb]
    go_wp2
    rw [← HM.out]
    unfold ReachR LH.reachB
    rw [if_pos hb, if_pos hb]
    exact ⟨.slice none 0 0, rfl, World.ownsRow_nil _ _ _ _, HX1.out⟩
  · have hb' : roots.any x.log.bad = false := by simpa using hb
    rw [hb']
    have Hb := Lib.hid hb
    clear hb hb'
    have Hrch := Lib.hid (reached_any (h.ext HX1.out) h.ok (Hr.out.ext HX1.out) (by omega) (gf := 46) (lead := #[]) (enters_of Try.func46 (by kernel_rfl) rfl) (p := fun _ => true)
        (fun y hy W hW => (ReachF_true y.ptr W).mono fun e w' ⟨h1, h2⟩ => ⟨h1, by rw [h2]; exact Ext.refl _⟩))
    go_wp2_with fail
    refine Hrch.out.mono ?_
    rintro e w5 ⟨K, rfl, hx5, hKM, hK, hKs, hKn⟩
    obtain ⟨m, hm⟩ : ∃ m, m = w1.heap.size := ⟨_, rfl⟩
    rw [← hm] at hKM ⊢
    obtain ⟨es2, ck2, hm2, he2, hg2⟩ := hKM.ex
    have HX5 := Lib.hid (HX1.out.trans hx5)
    have Hm2 : Hid (MapV w5 (.map (some m)) es2 ck2) := Lib.hid (.inr ⟨m, rfl, hm2⟩)
    have HE2 := Lib.hid he2; have HG2 := Lib.hid hg2
    have HK := Lib.hid hK; have HKs := Lib.hid hKs; have HKn := Lib.hid hKn
    clear Hrch hx5 hm hm2 he2 hg2 hK hKs hKn hKM HX1
    go_wp2_with (at_range; refine wpList_range_it rfl _ 101 rfl _ _ Try.underlying101 (by rfl) Hm2.out HE2.out.nodup HE2.out.borns HE2.out.born ?_; intro w6 hit hx6 hs6)
    go_frame
    obtain ⟨r2, hr2⟩ : ∃ r2, r2 = w5.heap.size := ⟨_, rfl⟩
    rw [← hr2] at hit ⊢
    have HI6 := Lib.hid hit
    have HX6 : Hid (Ext w w6) := Lib.hid (HX5.out.trans hx6)
    have Hwr2 : Hid (w.heap.size ≤ r2) := Lib.hid (by rw [hr2]; exact HX5.out.size)
    clear hit hx6 hs6 hr2 Hm2 HX5 HV Hr
    go_loopw [6] (fun ov wr => ∃ done : List PB, Hid (Iter wr (.map (some m)) r2 es2 ck2 (done.map PB.ptr)) ∧ Hid (wr.ownsRow w.heap.size 3 1 ov (done.map fun y => y.b.at_).length ((done.map fun y => y.b.at_).map (Value.int .i64))) ∧ Hid (Ext w wr) ∧ Hid (∀ y ∈ done, y ∈ K)) (fun f wr => itLeft wr r2)
    case atStart => exact ⟨[], HI6, Lib.hid (World.ownsRow_nil _ _ _ _), HX6, fun y hy => by cases hy⟩
    case round =>
      clear HI6 HX6
      obtain ⟨done, HI, HO, HX, HD⟩ := hrel
      have hnd : (done.map PB.p).Nodup := by
        have h1 := HI.out.nd
        have h2 := nodup_of_map (f := PB.ptr) h1
        refine nodup_map_of (f := PB.p) h2 fun a ha b hb e => ?_
        exact inj_of_nodup h.ps (HKs.out a (HD.out a ha)) (HKs.out b (HD.out b hb)) e
      have hdl : done.length ≤ 200000 := by
        have h1 := nodup_length hnd (b := x.all.map PB.p) fun k hk => by
          obtain ⟨y, hy, rfl⟩ := List.mem_map.1 hk
          exact List.mem_map_of_mem (HKs.out y (HD.out y hy))
        have := h.ok.all_len
        simp at h1; omega
      go_wp2_with (at_next; refine wpList_next_it rfl _ rfl rfl HI.out ?_ ?_)
      · intro hall
        have hall' : ∀ y ∈ K, y ∈ done := fun y hy => by
          have h1 := HG2.out y.p
          rw [if_pos (List.mem_map_of_mem hy)] at h1
          obtain ⟨e, he, hk⟩ := esPtr_mem h1
          have h2 := hall e (by simpa using he)
          obtain ⟨⟨⟨b0, o0, s0⟩, hk0, hkb⟩, -⟩ := hk
          obtain ⟨k', hk'⟩ := HE2.out.key e (by simpa using he)
          rw [hk'] at hk0 h2
          have ek : k' = y.p := by injection hk0 with e1; injection e1 with e1; injection e1 with e1 e2 e3; rw [e1]; exact hkb
          subst ek
          obtain ⟨z, hz, ez⟩ : ∃ z, z ∈ done ∧ z.ptr = .pointer (some ⟨y.p, 0, none⟩) := by simpa using h2
          have ez' : z.p = y.p := by unfold PB.ptr at ez; simpa using ez
          have := inj_of_nodup h.ps (HKs.out z (HD.out z hz)) (HKs.out y hy) ez'
          rw [← this]; exact hz
        have Hall := Lib.hid hall'
        have Hnd := Lib.hid hnd
        clear hall hall' hnd
        have hb0 := HX.out.size
        go_wp2_with fail
        refine (sort_own HO.out hb0 (by simp; omega)).mono ?_
        rintro e w8 ⟨rfl, ho8, hbl8⟩
        have Ho8 := Lib.hid ho8; have Hbl8 := Lib.hid hbl8
        clear ho8 hbl8
        go_wp2
        have hperm : (done.map fun y => y.b.at_).Perm (x.log.reach roots) := by
          have hn1 : (done.map fun y => y.b.at_).Nodup := by
            refine nodup_map_of (nodup_of_map Hnd.out) fun a ha b hb e => ?_
            exact h.ok.at_inj (HKs.out a (HD.out a ha)) (HKs.out b (HD.out b hb)) e
          have hn2 : (x.log.reach roots).Nodup := (reach_lt h.ok roots).imp fun h => by omega
          refine (List.perm_ext_iff_of_nodup hn1 hn2).2 fun a => ?_
          unfold LH.reach
          constructor
          · intro ha
            obtain ⟨y, hy, rfl⟩ := List.mem_map.1 ha
            refine List.mem_map.2 ⟨y.b, List.mem_filter.2 ⟨?_, LH.keep_iff.2 ?_⟩, rfl⟩
            · rw [log_all]; exact List.mem_map_of_mem (HKs.out y (HD.out y hy))
            · exact rch_log (fun _ _ => rfl) ((HK.out y).1 (HD.out y hy))
          · intro ha
            obtain ⟨b, hb, rfl⟩ := List.mem_map.1 ha
            obtain ⟨hb1, hb2⟩ := List.mem_filter.1 hb
            obtain ⟨y, hy, rfl, hrc⟩ := log_rch (x := x) (p := fun _ => true) (fun _ _ => rfl) (LH.keep_iff.1 hb2)
            exact List.mem_map.2 ⟨y, Hall.out y ((HK.out y).2 hrc), rfl⟩
        have hlen := hperm.length_eq
        have hso := sorted_eq hperm (reach_lt h.ok roots)
        have ho := Ho8.out
        rw [hso, hlen] at ho
        rw [← HM.out]
        unfold ReachR LH.reachB
        rw [if_neg Hb.out, if_neg Hb.out]
        exact ⟨_, rfl, ho, HX.out.trans' (Keeps.of_below Hbl8.out (fun k => w.heap.size ≤ k) fun k _ h => h) fun k hk hh => by omega⟩
      · intro e w7 he hne hit hkp hlt hen
        obtain ⟨k, hk⟩ := HE2.out.key e he
        rw [hk] at hen hit hne
        have hkK : k ∈ K.map PB.p := by
          have h1 := esPtr_of_mem (es := es2.toList) (by simpa using he) hk
          rw [HG2.out] at h1
          by_cases hm : k ∈ K.map PB.p
          · exact hm
          · rw [if_neg hm] at h1; exact (h1 rfl).elim
        obtain ⟨y, hyK, rfl⟩ := List.mem_map.1 hkK
        rw [hk]
        have HX7 : Hid (Ext w w7) := Lib.hid (HX.out.trans' hkp fun i hi e => by have := Hwr2.out; omega)
        have HI7 : Hid (Iter w7 (.map (some m)) r2 es2 ck2 (done.map PB.ptr ++ [.pointer (some ⟨y.p, 0, none⟩)])) := Lib.hid hit
        have Hlt : Hid (itLeft w7 r2 < itLeft wr r2) := Lib.hid hlt
        have HO7 : Hid (w7.ownsRow w.heap.size 3 1 u6 (done.map fun y => y.b.at_).length ((done.map fun y => y.b.at_).map (Value.int .i64))) := Lib.hid (ownsRow_keeps HO.out fun j hj => hkp.block j (HO.out.lt j hj).2 fun e => HI.out.own_ne HO.out (by rw [hj, e]))
        have HyK := Lib.hid hyK
        have hpy := (h.ext HX7.out).pbs y (HKs.out y hyK)
        have c0 : w7.cell? ⟨y.p, 0, none⟩ = some (.int .i64 y.b.at_) := (hpy.st.cell 0).trans rfl
        clear hkK hyK hpy hlt hit hkp hk hne he HI HO HX hnd
        obtain ⟨i0, hi, hz0, hz1, hz2⟩ := info_parts info_intG
        have hb7 := HX7.out.size
        go_wp2_with (at_builtin; refine wpList_append_fresh rfl _ _ 52 rfl w.heap.size 3 i0 _ 1 8 Try.underlying52 hi hz0 hz1 hz2 rfl (by decide) _ _ _ rfl (own_ext HO7.out ((Ext.refl w7).alloc (.cells #[.int .i64 y.b.at_] 3))) ⟨w7.heap.size, 0, none⟩ 1 1 [.int .i64 y.b.at_] rfl rfl ?c1 ?c2 ?c3 ?c4 ?c5 ?_)
        case c1 => exact cell_one_new w7 (.int .i64 y.b.at_) 3
        case c2 => simp [Value.oneCell']
        case c3 => simp only [List.length_map]; unfold maxLen; omega
        case c4 => simp only [List.length_map]; omega
        case c5 => simp; omega
        intro v' w8 hown hgrow hnil hfresh
        have hblk : ∀ (j : Nat) (o : Obj), w7.heap[j]? = some o → o.isCells = false → w8.heap[j]? = some o := fun j o hj ho => by
          have hlt := (Array.getElem?_eq_some_iff.1 hj).1
          refine ((hgrow.block j (by simp; omega) ?_).trans (Ext.heap ((Ext.refl w7).alloc (.cells #[.int .i64 y.b.at_] 3)) j hlt)).trans hj
          intro e
          obtain ⟨cur, hc⟩ := ownsRow_type HO7.out e.symm
          unfold Blk at hc; rw [hj] at hc; injection hc with hc; rw [hc] at ho; cases ho
        have hit8 : Iter w8 (.map (some m)) r2 es2 ck2 (done.map PB.ptr ++ [.pointer (some ⟨y.p, 0, none⟩)]) ∧ itLeft w8 r2 = itLeft w7 r2 := by
          refine HI7.out.keep ?_ fun m' hm' => ?_
          · obtain ⟨m', since, seen, c0, h1, _⟩ := HI7.out.it
            exact (hblk _ _ h1 rfl).trans h1.symm
          · rcases HI7.out.map with ⟨h1, _⟩ | ⟨m2, h1, h2⟩
            · cases h1
            · rw [h1] at hm'; injection hm' with hm'; injection hm' with hm'; subst hm'
              exact (hblk _ _ h2 rfl).trans h2.symm
        have HI8 := Lib.hid hit8.1
        have Hlt8 : Hid (itLeft w8 r2 < itLeft wr r2) := Lib.hid (by rw [hit8.2]; exact Hlt.out)
        have HX8 : Hid (Ext w w8) := Lib.hid ((HX7.out.alloc _).grown hgrow fun j e => .inr (HO7.out.lt j e).1)
        have Hown := Lib.hid hown
        clear hown hgrow hnil hfresh hblk hit8 HI7 Hlt HX7 HO7 hb7 hi hz0 hz1 hz2
        go_wp2
        refine ⟨⟨done ++ [y], by rw [List.map_append]; exact HI8, ?_, HX8, fun z hz => ?_⟩, Hlt8.out⟩
        · have := Hown.out
          refine Lib.hid ?_
          simpa using this
        · rcases List.mem_append.1 hz with hz | hz
          · exact HD.out z hz
          · simp at hz; subst hz; exact HyK.out
end Go.Proofs.Ytikigppfnhilhaa
