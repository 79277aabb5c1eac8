/- The arguments of the heap's laws, opened. -/
import Derived.Test.YtikigppfnhilhaaRows
import Derived.Test.YtikigppfnhilhaaLF
import Derived.ProofKit
import Derived.OpenShut
import Derived.JoinedCond
import Derived.Carry
namespace Go.Proofs.Ytikigppfnhilhaa
open Go.RowKit Go.Instr Go.ChangeShapes Go.WideShapes Go.ChangeAt
set_option linter.unusedVariables false
set_option linter.unusedSimpArgs false

section
variable {H : Type} {enc : TypeId × Value → H} {w : World} {spare : Nat → Bool} {held : Bool}

theorem bulk_part {d : DataW H} {l : List (DataW H)} (h : d ∈ l) : Rows.uptoBulk d ≤ Rows.uptoBulkAll l := by
  induction l with
  | nil => cases h
  | cons x r ih =>
    simp only [Rows.uptoBulkAll]
    cases List.mem_cons.1 h with
    | inl e => subst e; omega
    | inr e => have := ih e; omega
theorem bulk_one (d : DataW H) : 1 ≤ Rows.uptoBulk d := by
  cases d with
  | lit l => cases l <;> simp [Rows.uptoBulk]
  | nil => simp [Rows.uptoBulk]
  | ptr d => simp [Rows.uptoBulk]
  | slice elems spare => simp [Rows.uptoBulk]
  | agg parts => simp [Rows.uptoBulk]
  | iface t d => simp [Rows.uptoBulk]
  | map entries => simp [Rows.uptoBulk]
  | held h => simp [Rows.uptoBulk]
theorem bulk_len (l : List (DataW H)) : l.length ≤ Rows.uptoBulkAll l := by
  induction l with
  | nil => simp [Rows.uptoBulkAll]
  | cons x r ih => have := bulk_one x; simp only [Rows.uptoBulkAll, List.length_cons]; omega

theorem cells_six : Try.prog.cellsOf 33 = 6 := by kernel_rfl
theorem cells_real : Try.prog.cellsOf 31 = 2 := by kernel_rfl
theorem cells_act : Try.prog.cellsOf 35 = 11 := by kernel_rfl
theorem cells_int : Try.prog.cellsOf 3 = 1 := by kernel_rfl
theorem cells_str : Try.prog.cellsOf 9 = 1 := by kernel_rfl
theorem cells_bool : Try.prog.cellsOf 4 = 1 := by kernel_rfl
theorem cells_words : Try.prog.cellsOf 23 = 1 := by kernel_rfl

theorem list_six {α : Type} {l : List α} (h : l.length = 6) : ∃ a b c d e f, l = [a, b, c, d, e, f] := by
  match l, h with
  | [a, b, c, d, e, f], _ => exact ⟨a, b, c, d, e, f, rfl⟩
theorem list_eleven {α : Type} {l : List α} (h : l.length = 11) : ∃ a b c d e f g i j k m, l = [a, b, c, d, e, f, g, i, j, k, m] := by
  match l, h with
  | [a, b, c, d, e, f, g, i, j, k, m], _ => exact ⟨a, b, c, d, e, f, g, i, j, k, m, rfl⟩

/-- A word. -/
theorem open_word {fuel : Nat} {cs : List Value} {x : DataW H × List MemPlace} (h : DataW.trod enc Try.prog w 0 spare held fuel 33 cs = some x) : ∃ u : Wd, cs = u.cells := by
  obtain ⟨xs, n, _, _, hl, hlen, hf⟩ := DataW.trod_struct Try.underlying33 h
  rw [cells_six] at hl
  obtain ⟨a, b, c, d, e, f, rfl⟩ := list_six hl
  have g := fun i (hi : i < xs.length) => List.getElem?_eq_getElem hi
  have f0 : DataW.trod enc Try.prog w 0 spare held n 3 (([a, b, c, d, e, f].drop 0).take (Try.prog.cellsOf 3)) = xs[0]? := hf 0 _ rfl
  have f1 : DataW.trod enc Try.prog w 0 spare held n 3 (([a, b, c, d, e, f].drop 1).take (Try.prog.cellsOf 3)) = xs[1]? := hf 1 _ rfl
  have f2 : DataW.trod enc Try.prog w 0 spare held n 3 (([a, b, c, d, e, f].drop 2).take (Try.prog.cellsOf 3)) = xs[2]? := hf 2 _ rfl
  have f3 : DataW.trod enc Try.prog w 0 spare held n 9 (([a, b, c, d, e, f].drop 3).take (Try.prog.cellsOf 9)) = xs[3]? := hf 3 _ rfl
  have f4 : DataW.trod enc Try.prog w 0 spare held n 31 (([a, b, c, d, e, f].drop 4).take (Try.prog.cellsOf 31)) = xs[4]? := hf 4 _ rfl
  have hx5 : xs.length = 5 := by rw [hlen]; rfl
  rw [g 0 (by omega)] at f0; rw [g 1 (by omega)] at f1; rw [g 2 (by omega)] at f2; rw [g 3 (by omega)] at f3; rw [g 4 (by omega)] at f4
  simp only [cells_int] at f0 f1 f2
  simp only [cells_str] at f3
  simp only [cells_real] at f4
  obtain ⟨t, ht, -⟩ := DataW.trod_int Try.underlying3 f0
  obtain ⟨p, hp, -⟩ := DataW.trod_int Try.underlying3 f1
  obtain ⟨q, hq, -⟩ := DataW.trod_int Try.underlying3 f2
  obtain ⟨s, hs, -⟩ := DataW.trod_string Try.underlying9 f3
  obtain ⟨ys, m, _, _, hl2, hlen2, hf2⟩ := DataW.trod_struct Try.underlying31 f4
  have g2 := fun i (hi : i < ys.length) => List.getElem?_eq_getElem hi
  have hy2 : ys.length = 2 := by rw [hlen2]; rfl
  have r0 : DataW.trod enc Try.prog w 0 spare held m 3 (((([a, b, c, d, e, f].drop 4).take 2).drop 0).take (Try.prog.cellsOf 3)) = ys[0]? := hf2 0 _ rfl
  have r1 : DataW.trod enc Try.prog w 0 spare held m 3 (((([a, b, c, d, e, f].drop 4).take 2).drop 1).take (Try.prog.cellsOf 3)) = ys[1]? := hf2 1 _ rfl
  rw [g2 0 (by omega)] at r0; rw [g2 1 (by omega)] at r1
  simp only [cells_int] at r0 r1
  obtain ⟨mn, hm, -⟩ := DataW.trod_int Try.underlying3 r0
  obtain ⟨ex, he, -⟩ := DataW.trod_int Try.underlying3 r1
  simp at ht hp hq hs hm he
  exact ⟨⟨t, p, q, s, mn, ex⟩, by simp [Wd.cells, ht, hp, hq, hs, hm, he]⟩

theorem exists_list {α : Type} (n : Nat) (P : Nat → α → Prop) (h : ∀ i, i < n → ∃ a, P i a) : ∃ l : List α, l.length = n ∧ ∀ i a, l[i]? = some a → P i a := by
  induction n with
  | zero => exact ⟨[], rfl, fun i a h => by simp at h⟩
  | succ n ih =>
    obtain ⟨l, hl, hp⟩ := ih fun i hi => h i (by omega)
    obtain ⟨a, ha⟩ := h n (by omega)
    refine ⟨l ++ [a], by simp [hl], fun i b hb => ?_⟩
    by_cases hi : i < l.length
    · rw [List.getElem?_append_left hi] at hb; exact hp i b hb
    · rw [List.getElem?_append_right (by omega)] at hb
      have : i = n := by
        have := (List.getElem?_eq_some_iff.1 hb).1; simp at this; omega
      subst this
      rw [hl] at hb; simp at hb; subst hb; exact ha
theorem cells_get {base : Nat} {a : Addr} {n : Nat} {cs : List Value} (h : w.cells? base a n = some cs) {j : Nat} {u : Value} (hu : cs[j]? = some u) (hj : j < n) : w.cell? (a.add j) = some u := by
  rw [(World.cells?_some h).2.2 j hj]; exact hu

/-- Words in a slice. -/
theorem open_words {fuel : Nat} {cs : List Value} {x : DataW H × List MemPlace} (h : DataW.trod enc Try.prog w 0 spare held fuel 23 cs = some x) :
    ∃ a c ws, cs = [.slice a (List.length ws) c] ∧ RdW w (.slice a ws.length c) ws ∧ ws.length ≤ Rows.uptoBulk x.1 := by
  rcases DataW.trod_slice Try.underlying23 h with ⟨rfl, rfl⟩ | ⟨a, len, cap, elems, rest, n, _, rfl, rfl, hb, hlc, hm, hlen, hel, hsp, hns⟩
  · exact ⟨none, 0, [], rfl, ⟨none, 0, rfl, fun _ => rfl, fun ad had => by cases had⟩, by simp⟩
  · rw [cells_six] at hel
    obtain ⟨ws, hwl, hws⟩ := exists_list len (fun i (u : Wd) => w.cells? 0 (a.add (i * 6)) 6 = some u.cells) fun i hi => by
      have h1 := hel i hi
      rw [List.getElem?_eq_getElem (by omega)] at h1
      obtain ⟨cs, h2, h3⟩ := Option.bind_eq_some_iff.1 h1
      obtain ⟨u, rfl⟩ := open_word h3
      exact ⟨u, h2⟩
    refine ⟨some a, cap, ws, by rw [hwl], ⟨some a, cap, rfl, fun e => (by cases e), fun ad had j v hv => ?_⟩, ?_⟩
    · injection had with had; subst had
      have hj : j < ws.length * 6 := by have := (List.getElem?_eq_some_iff.1 hv).1; rw [flatL_length] at this; exact this
      have hji : j / 6 < ws.length := by omega
      have hu : ws[j / 6]? = some ws[j / 6] := List.getElem?_eq_getElem hji
      have hg := flatL_get ws (j / 6) _ hu (j % 6) (by omega)
      rw [show j / 6 * 6 + j % 6 = j from by omega] at hg
      have h3 := cells_get (hws _ _ hu) (j := j % 6) (u := v) (by rw [← hg]; exact hv) (by omega)
      rw [Addr.add_add, show j / 6 * 6 + j % 6 = j from by omega] at h3
      exact h3
    · simp only [Rows.uptoBulk]
      have := bulk_len (elems.map (·.1))
      rw [List.length_map] at this
      omega
/-- An act. -/
theorem open_act {fuel : Nat} {cs : List Value} {x : DataW H × List MemPlace} (h : DataW.trod enc Try.prog w 0 spare held fuel 35 cs = some x) :
    ∃ (y : Ac) (ra : Option Addr) (rc : Nat), cs = y.cells (.slice ra y.roots.length rc) ∧ RdW w (.slice ra y.roots.length rc) y.roots ∧ y.roots.length ≤ Rows.uptoBulk x.1 := by
  obtain ⟨xs, n, _, hx, hl, hlen, hf⟩ := DataW.trod_struct Try.underlying35 h
  rw [cells_act] at hl
  obtain ⟨a, b, c, d, e, f, g, i, j, k, m, rfl⟩ := list_eleven hl
  have gg := fun i (hi : i < xs.length) => List.getElem?_eq_getElem hi
  have hx6 : xs.length = 6 := by rw [hlen]; rfl
  have f0 : DataW.trod enc Try.prog w 0 spare held n 3 (([a, b, c, d, e, f, g, i, j, k, m].drop 0).take (Try.prog.cellsOf 3)) = xs[0]? := hf 0 _ rfl
  have f1 : DataW.trod enc Try.prog w 0 spare held n 3 (([a, b, c, d, e, f, g, i, j, k, m].drop 1).take (Try.prog.cellsOf 3)) = xs[1]? := hf 1 _ rfl
  have f2 : DataW.trod enc Try.prog w 0 spare held n 3 (([a, b, c, d, e, f, g, i, j, k, m].drop 2).take (Try.prog.cellsOf 3)) = xs[2]? := hf 2 _ rfl
  have f3 : DataW.trod enc Try.prog w 0 spare held n 33 (([a, b, c, d, e, f, g, i, j, k, m].drop 3).take (Try.prog.cellsOf 33)) = xs[3]? := hf 3 _ rfl
  have f4 : DataW.trod enc Try.prog w 0 spare held n 23 (([a, b, c, d, e, f, g, i, j, k, m].drop 9).take (Try.prog.cellsOf 23)) = xs[4]? := hf 4 _ rfl
  have f5 : DataW.trod enc Try.prog w 0 spare held n 4 (([a, b, c, d, e, f, g, i, j, k, m].drop 10).take (Try.prog.cellsOf 4)) = xs[5]? := hf 5 _ rfl
  rw [gg 0 (by omega)] at f0; rw [gg 1 (by omega)] at f1; rw [gg 2 (by omega)] at f2; rw [gg 3 (by omega)] at f3; rw [gg 4 (by omega)] at f4; rw [gg 5 (by omega)] at f5
  simp only [cells_int] at f0 f1 f2
  simp only [cells_six] at f3
  simp only [cells_words] at f4
  simp only [cells_bool] at f5
  obtain ⟨t, ht, -⟩ := DataW.trod_int Try.underlying3 f0
  obtain ⟨p, hp, -⟩ := DataW.trod_int Try.underlying3 f1
  obtain ⟨q, hq, -⟩ := DataW.trod_int Try.underlying3 f2
  obtain ⟨u, hu⟩ := open_word f3
  obtain ⟨ra, rc, ws, hr, hrd, hrb⟩ := open_words f4
  obtain ⟨nb, hn, -⟩ := DataW.trod_bool Try.underlying4 f5
  simp [Wd.cells] at ht hp hq hu hr hn
  refine ⟨⟨t, p, q, u, ws, nb⟩, ra, rc, by simp [Ac.cells, ht, hp, hq, hu, hr, hn], hrd, ?_⟩
  rw [hx]
  simp only [Rows.uptoBulk]
  have h1 : (xs[4]'(by omega)).1 ∈ xs.map (·.1) := List.mem_map_of_mem (List.getElem_mem (by omega))
  have := bulk_part h1
  show ws.length ≤ _
  omega
/-- Acts in a slice. -/
theorem open_acts {fuel : Nat} {cs : List Value} {x : DataW H × List MemPlace} (h : DataW.trod enc Try.prog w 0 spare held fuel 22 cs = some x) :
    ∃ a c l, cs = [.slice a (List.length l) c] ∧ RdA w (.slice a l.length c) l ∧ l.length ≤ Rows.uptoBulk x.1 ∧ ∀ y ∈ l, y.roots.length ≤ Rows.uptoBulk x.1 := by
  rcases DataW.trod_slice Try.underlying22 h with ⟨rfl, rfl⟩ | ⟨a, len, cap, elems, rest, n, _, rfl, rfl, hb, hlc, hm, hlen, hel, hsp, hns⟩
  · exact ⟨none, 0, [], rfl, ⟨none, 0, rfl, fun _ => rfl, fun ad had => by cases had⟩, by simp, fun y hy => by cases hy⟩
  · rw [cells_act] at hel
    obtain ⟨l, hll, hls⟩ := exists_list len (fun i (y : Ac) => ∃ ra rc, w.cells? 0 (a.add (i * 11)) 11 = some (y.cells (.slice ra y.roots.length rc)) ∧ RdW w (.slice ra y.roots.length rc) y.roots ∧ y.roots.length ≤ Rows.uptoBulkAll (elems.map (·.1))) fun i hi => by
      have h1 := hel i hi
      have hi2 : i < elems.length := by omega
      rw [List.getElem?_eq_getElem hi2] at h1
      obtain ⟨cs, h2, h3⟩ := Option.bind_eq_some_iff.1 h1
      obtain ⟨y, ra, rc, rfl, h4, h5⟩ := open_act h3
      have h6 : (elems[i]).1 ∈ elems.map (·.1) := List.mem_map_of_mem (List.getElem_mem hi2)
      have := bulk_part h6
      exact ⟨y, ra, rc, h2, h4, by omega⟩
    refine ⟨some a, cap, l, by rw [hll], ⟨some a, cap, rfl, fun e => (by cases e), fun ad had i y hy => ?_⟩, ?_, ?_⟩
    · injection had with had; subst had
      obtain ⟨ra, rc, h1, h2, -⟩ := hls i y hy
      refine ⟨ra, rc, fun j u hu => ?_, h2⟩
      have hj : j < 11 := by have := (List.getElem?_eq_some_iff.1 hu).1; simpa [Ac.cells] using this
      exact cells_get h1 hu hj
    · simp only [Rows.uptoBulk]
      have := bulk_len (elems.map (·.1))
      rw [List.length_map] at this
      omega
    · intro y hy
      obtain ⟨i, hi, rfl⟩ := List.getElem_of_mem hy
      obtain ⟨ra, rc, -, -, h3⟩ := hls i _ (List.getElem?_eq_getElem hi)
      simp only [Rows.uptoBulk]; omega
end
end Go.Proofs.Ytikigppfnhilhaa
