/-
  An own row of rows of marks, of which one has its mark changed. Conditions: none.
-/
import Derived.Test.YtnijcglmfpiheaaEmphDoor
set_option linter.unusedSimpArgs false
set_option linter.unusedVariables false
namespace Go.Proofs.Ytnijcglmfpiheaa
open Go.RowKit Go.Lib

/-- A store into an own row. -/
theorem ownsRow_set {w : World} {base n size g cap : Nat} {e : TypeId} {xs : List Value} (h : w.ownsRow base e size (.slice (some ⟨g, 0, none⟩) n cap) n xs) {j : Nat} (hj : j < n * size) (u : Value) :
    (w.setCell ⟨g, j, none⟩ u).ownsRow base e size (.slice (some ⟨g, 0, none⟩) n cap) n (xs.set j u) ∧ w.cell? ⟨g, j, none⟩ = xs[j]? ∧ w.frozen? ⟨g, j, none⟩ = false ∧ base ≤ g ∧ g < w.heap.size := by
  rcases id h.2 with ⟨hv, h0⟩ | ⟨g', cap', cur, hv, hg, hh, hc, hm, hs, ht⟩
  · subst h0
    rw [Nat.zero_mul] at hj
    omega
  · injection hv with h1 h2 h3
    injection h1 with h1
    injection h1 with h1
    subst h1 h3
    refine ⟨⟨by rw [List.length_set]; exact h.1, .inr ⟨g, cap, cur.setIfInBounds j u, rfl, hg, block_set hh u, hc, hm, by rw [Array.size_setIfInBounds]; exact hs, ?_⟩⟩, ?_, by simp [World.frozen?, hh], hg, (Array.getElem?_eq_some_iff.1 hh).1⟩
    · rw [Array.toList_setIfInBounds, List.take_set, ht]
    · rw [← ht, List.getElem?_take_of_lt hj]
      simp only [World.cell?, hh]
      simp
theorem runCells_mark (m : Int) : ∀ (l : List RunP) (i : Nat) (h : i < l.length), (runCells l).set (i * 4) (.int .u8 m) = runCells (l.set i ⟨m, l[i].n, l[i].op, l[i].cl⟩)
  | x :: t, 0, h => by simp [runCells, runC]
  | x :: t, i + 1, h => by
    have e : ∀ (y : RunP) (s : List RunP), runCells (y :: s) = runC y ++ runCells s := fun y s => by simp [runCells]
    rw [e, List.set_append_right _ _ (by simp [runC]; omega), show (i + 1) * 4 - (runC x).length = i * 4 by simp [runC]; omega, runCells_mark m t i (by simpa using h), ← e]
    rfl
/-- The first k rows have the mark m. -/
def markP (m : Int) (k : Nat) (l : List RunP) : List RunP := l.mapIdx fun j r => if j < k then ⟨m, r.n, r.op, r.cl⟩ else r
theorem markP_len (m : Int) (k : Nat) (l : List RunP) : (markP m k l).length = l.length := by simp [markP]
theorem markP_zero (m : Int) (l : List RunP) : markP m 0 l = l := by
  apply List.ext_getElem
  · simp [markP]
  · intro i h1 h2
    simp [markP]
theorem markP_step (m : Int) (k : Nat) (l : List RunP) (h : k < l.length) : (markP m k l).set k ⟨m, ((markP m k l)[k]'(by rw [markP_len]; exact h)).n, ((markP m k l)[k]'(by rw [markP_len]; exact h)).op, ((markP m k l)[k]'(by rw [markP_len]; exact h)).cl⟩ = markP m (k + 1) l := by
  apply List.ext_getElem
  · simp [markP]
  · intro i h1 h2
    rw [List.getElem_set]
    have hk : (markP m k l)[k]'(by rw [markP_len]; exact h) = l[k] := by simp [markP]
    simp only [hk]
    split
    · subst_vars
      simp [markP]
    · rename_i hne
      simp only [markP, List.getElem_mapIdx]
      by_cases hik : i < k
      · rw [if_pos hik, if_pos (by omega)]
      · rw [if_neg hik, if_neg (by omega)]
theorem markP_all {m : Int} {l : List RunP} {r : RunP} (h : r ∈ markP m l.length l) : r.mark = m := by
  obtain ⟨i, hi, rfl⟩ := List.mem_iff_getElem.1 h
  have hi' : i < l.length := by rwa [markP_len] at hi
  simp [markP, hi']
theorem markP_ok {m : Int} (hm : (Lit.int .u8 m).wf = true) {l : List RunP} (hl : ∀ r ∈ l, RunOk r) : ∀ r ∈ markP m l.length l, RunOk r := by
  intro r h
  obtain ⟨i, hi, rfl⟩ := List.mem_iff_getElem.1 h
  have hi' : i < l.length := by rwa [markP_len] at hi
  have := hl l[i] (List.getElem_mem hi')
  have e : (markP m l.length l)[i] = ⟨m, l[i].n, l[i].op, l[i].cl⟩ := by simp [markP, hi']
  rw [e]
  exact ⟨hm, this.n⟩
/-- One row of an own row has its mark changed. -/
theorem mark_set {w : World} {base g cap k : Nat} {m : Int} {l : List RunP} (hk : k < l.length) (h : w.ownsRow base 42 4 (.slice (some ⟨g, 0, none⟩) l.length cap) l.length (runCells (markP m k l))) :
    (w.setCell ⟨g, k * 4, none⟩ (.int .u8 m)).ownsRow base 42 4 (.slice (some ⟨g, 0, none⟩) l.length cap) l.length (runCells (markP m (k + 1) l)) ∧ (∃ v, w.cell? ⟨g, k * 4, none⟩ = some v) ∧ w.frozen? ⟨g, k * 4, none⟩ = false ∧ base ≤ g ∧ g < w.heap.size := by
  obtain ⟨h1, h2, h3, h4, h5⟩ := ownsRow_set h (j := k * 4) (by omega) (.int .u8 m)
  refine ⟨?_, ?_, h3, h4, h5⟩
  · rw [runCells_mark m _ k (by rw [markP_len]; exact hk), markP_step m k l hk] at h1
    exact h1
  · have hlen : k * 4 < (runCells (markP m k l)).length := by rw [runCells_length, markP_len]; omega
    exact ⟨_, h2.trans (List.getElem?_eq_getElem hlen)⟩
/-- A cell of an own row is stored: what lies below it stays. -/
theorem below_set {N : Nat} {a w : World} (h : Below N a w) {g : Nat} (hg : N ≤ g) (i : Nat) (u : Value) : Below N a (w.setCell ⟨g, i, none⟩ u) := by
  have hs := set_grown w g i u
  exact ⟨hs.os.trans h.os, hs.tape.trans h.tape, hs.output.trans h.output, Nat.le_trans h.size hs.size, fun k hk => by
    have hne : k ≠ g := by omega
    rw [Below.heap_setCell _ _ _ _ hne]
    exact h.block k hk⟩
end Go.Proofs.Ytnijcglmfpiheaa
