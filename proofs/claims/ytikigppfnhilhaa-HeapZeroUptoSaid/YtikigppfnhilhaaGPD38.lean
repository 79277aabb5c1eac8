/- Alloc of the reference. -/
import Derived.Test.YtikigppfnhilhaaGPD37
import Derived.StillTailTactics
/- Alloc of the reference. -/
namespace Go.Proofs.Ytikigppfnhilhaa
open Go.RowKit Go.Instr
set_option linter.unusedVariables false
set_option linter.unusedSimpArgs false
attribute [local go_sem] Oper.semAt_some

theorem RRep.alloc_y {w W : World} {base : Nat} {r : RH} (h : RRep w base r) {v' : Value} {nb : RB} (hb : Blk W r.rp ({ r with ya := v', yb := r.yb ++ [nb] } : RH).cells 69) (hrow : rowR W base v' (r.yb ++ [nb]))
    (hown : ∀ k, v'.ownBlock = some k → r.ya.ownBlock = some k ∨ w.heap.size ≤ k) (hk : Keeps (fun k => k = r.rp ∨ r.ya.ownBlock = some k) w W) (hw : Blk W nb.arr (flat nb.b.ws) 33) (hn : w.heap.size ≤ nb.arr)
    (hat : nb.b.at_ = 1 + bused r.log.yb) (hfit : bused r.log.yb + (nb.b.ws.length + 1) ≤ r.Y) : RRep W base { r with ya := v', yb := r.yb ++ [nb] } := by
  have hty : ∀ {k : Nat} {c : Array Value} {t : TypeId}, Blk w k c t → t ≠ 69 → t ≠ 49 → W.heap[k]? = w.heap[k]? := fun {k c t} hc h1 h2 => hk.block k hc.lt fun e => by
    rcases e with e | e
    · exact hc.ne h.blk h1 e
    · obtain ⟨cur, hc2⟩ := ownsRow_type h.yrow e; exact hc.ne hc2 h2 rfl
  have hlog : ({ r with ya := v', yb := r.yb ++ [nb] } : RH).log.yb = r.log.yb ++ [nb.b] := by simp [RH.log]
  have hmem : ∀ z, z ∈ ({ r with ya := v', yb := r.yb ++ [nb] } : RH).all ↔ z ∈ r.all ∨ z = nb := fun z => by
    simp only [RH.all, List.mem_append, List.mem_singleton]
    constructor <;> rintro h <;> rcases h with h | h <;> (try rcases h with h | h) <;> simp [h]
  have hb0 : base ≤ w.heap.size := by have := h.base_ r.rp (.inl rfl); have := h.fp_lt r.rp (.inl rfl); omega
  exact
    { blk := hb
      yrow := hrow
      orow := ownsRow_keeps h.orow fun k e => hk.block k (h.orow.lt k e).2 fun e2 => by
        rcases e2 with e2 | e2
        · obtain ⟨cur, hc⟩ := ownsRow_type h.orow e; exact hc.ne h.blk (by decide) e2
        · exact h.rows k e2 e
      mrow := ownsRow_keeps h.mrow fun k e => by obtain ⟨cur, hc⟩ := ownsRow_type h.mrow e; exact hty hc (by decide) (by decide)
      rows := fun k e e2 => by
        rcases hown k e with e3 | e3
        · exact h.rows k e3 e2
        · have := (h.orow.lt k e2).2; omega
      wo := fun z hz => by
        rcases (hmem z).1 hz with hz | rfl
        · exact (hty (h.wo z hz) (by decide) (by decide)).trans (h.wo z hz)
        · exact hw
      arrs := by
        have hn2 : nb.arr ∉ r.all.map RB.arr := fun hm => by
          have := h.fp_lt nb.arr (.inr (.inr (.inr (.inr hm)))); omega
        have hp : (({ r with ya := v', yb := r.yb ++ [nb] } : RH).all.map RB.arr).Perm (nb.arr :: r.all.map RB.arr) := by
          simp only [RH.all, List.map_append, List.map_cons, List.map_nil]
          rw [List.append_assoc]; exact List.perm_middle
        rw [hp.nodup_iff, List.nodup_cons]; exact ⟨hn2, h.arrs⟩
      base_ := fun k hk2 => by
        rcases hk2 with e | e | e | e | e
        · exact h.base_ k (.inl e)
        · rcases hown k e.symm with e | e; exact h.base_ k (.inr (.inl e.symm)); omega
        · exact h.base_ k (.inr (.inr (.inl e)))
        · exact h.base_ k (.inr (.inr (.inr (.inl e))))
        · obtain ⟨z, hz, rfl⟩ := List.mem_map.1 e
          rcases (hmem z).1 hz with hz | rfl
          · exact h.base_ _ (.inr (.inr (.inr (.inr (List.mem_map_of_mem hz)))))
          · omega
      sorted := h.sorted
      msub := fun k hk2 => h.msub k hk2
      ok := by
        have e1 : bused [nb.b] = nb.b.ws.length + 1 := by simp [bused]
        refine ⟨h.ok.Y0, h.ok.O0, ?_, ?_, ?_, ?_⟩
        · rw [hlog, bused_append, e1]; exact hfit
        · exact h.ok.uo
        · rw [hlog]; exact Dense.append.2 ⟨h.ok.dy, hat, trivial⟩
        · exact h.ok.do_
      Y1 := h.Y1
      O1 := h.O1 }
theorem RRep.alloc_o {w W : World} {base : Nat} {r : RH} (h : RRep w base r) {v' : Value} {nb : RB} (hb : Blk W r.rp ({ r with oa := v', ob := r.ob ++ [nb] } : RH).cells 69) (hrow : rowR W base v' (r.ob ++ [nb]))
    (hown : ∀ k, v'.ownBlock = some k → r.oa.ownBlock = some k ∨ w.heap.size ≤ k) (hk : Keeps (fun k => k = r.rp ∨ r.oa.ownBlock = some k) w W) (hw : Blk W nb.arr (flat nb.b.ws) 33) (hn : w.heap.size ≤ nb.arr)
    (hat : nb.b.at_ = r.Y + 1 + bused r.log.ob) (hfit : bused r.log.ob + (nb.b.ws.length + 1) ≤ r.O) : RRep W base { r with oa := v', ob := r.ob ++ [nb] } := by
  have hty : ∀ {k : Nat} {c : Array Value} {t : TypeId}, Blk w k c t → t ≠ 69 → t ≠ 49 → W.heap[k]? = w.heap[k]? := fun {k c t} hc h1 h2 => hk.block k hc.lt fun e => by
    rcases e with e | e
    · exact hc.ne h.blk h1 e
    · obtain ⟨cur, hc2⟩ := ownsRow_type h.orow e; exact hc.ne hc2 h2 rfl
  have hlog : ({ r with oa := v', ob := r.ob ++ [nb] } : RH).log.ob = r.log.ob ++ [nb.b] := by simp [RH.log]
  have hmem : ∀ z, z ∈ ({ r with oa := v', ob := r.ob ++ [nb] } : RH).all ↔ z ∈ r.all ∨ z = nb := fun z => by
    simp only [RH.all, List.mem_append, List.mem_singleton]
    constructor <;> rintro h <;> rcases h with h | h <;> (try rcases h with h | h) <;> simp [h]
  have hb0 : base ≤ w.heap.size := by have := h.base_ r.rp (.inl rfl); have := h.fp_lt r.rp (.inl rfl); omega
  exact
    { blk := hb
      orow := hrow
      yrow := ownsRow_keeps h.yrow fun k e => hk.block k (h.yrow.lt k e).2 fun e2 => by
        rcases e2 with e2 | e2
        · obtain ⟨cur, hc⟩ := ownsRow_type h.yrow e; exact hc.ne h.blk (by decide) e2
        · exact h.rows k e e2
      mrow := ownsRow_keeps h.mrow fun k e => by obtain ⟨cur, hc⟩ := ownsRow_type h.mrow e; exact hty hc (by decide) (by decide)
      rows := fun k e e2 => by
        rcases hown k e2 with e3 | e3
        · exact h.rows k e e3
        · have := (h.yrow.lt k e).2; omega
      wo := fun z hz => by
        rcases (hmem z).1 hz with hz | rfl
        · exact (hty (h.wo z hz) (by decide) (by decide)).trans (h.wo z hz)
        · exact hw
      arrs := by
        have hn2 : nb.arr ∉ r.all.map RB.arr := fun hm => by
          have := h.fp_lt nb.arr (.inr (.inr (.inr (.inr hm)))); omega
        have hp : (({ r with oa := v', ob := r.ob ++ [nb] } : RH).all.map RB.arr).Perm (nb.arr :: r.all.map RB.arr) := by
          simp only [RH.all, List.map_append, List.map_cons, List.map_nil]
          rw [← List.append_assoc]; exact List.perm_append_singleton _ _
        rw [hp.nodup_iff, List.nodup_cons]; exact ⟨hn2, h.arrs⟩
      base_ := fun k hk2 => by
        rcases hk2 with e | e | e | e | e
        · exact h.base_ k (.inl e)
        · exact h.base_ k (.inr (.inl e))
        · rcases hown k e.symm with e | e; exact h.base_ k (.inr (.inr (.inl e.symm))); omega
        · exact h.base_ k (.inr (.inr (.inr (.inl e))))
        · obtain ⟨z, hz, rfl⟩ := List.mem_map.1 e
          rcases (hmem z).1 hz with hz | rfl
          · exact h.base_ _ (.inr (.inr (.inr (.inr (List.mem_map_of_mem hz)))))
          · omega
      sorted := h.sorted
      msub := fun k hk2 => by have := h.msub k hk2; simp only [List.map_append, List.mem_append]; exact .inl this
      ok := by
        have e1 : bused [nb.b] = nb.b.ws.length + 1 := by simp [bused]
        refine ⟨h.ok.Y0, h.ok.O0, ?_, ?_, ?_, ?_⟩
        · exact h.ok.uy
        · rw [hlog, bused_append, e1]; exact hfit
        · exact h.ok.dy
        · rw [hlog]; exact Dense.append.2 ⟨h.ok.do_, hat, trivial⟩
      Y1 := h.Y1
      O1 := h.O1 }
end Go.Proofs.Ytikigppfnhilhaa
