/-
  Plain theory of trees: the rows that the walk keeps. Conditions: none.
-/
import Derived.Test.YtlebikmiophghaaDoorTreeP
set_option linter.unusedSimpArgs false
set_option linter.unusedVariables false
namespace Go.Proofs.YtlebikmiophghaaDoor

def openL : List (Nat × Nat) → List Int
  | [] => [-1]
  | (p, _) :: r => openL r ++ [(p : Int)]
def dueL : List (Nat × Nat) → List Int
  | [] => []
  | (_, d) :: r => dueL r ++ [(d : Int)]
theorem openL_len : ∀ st, (openL st).length = st.length + 1
  | [] => rfl
  | (p, d) :: r => by rw [openL, List.length_append, openL_len r]; rfl
theorem dueL_len : ∀ st, (dueL st).length = st.length
  | [] => rfl
  | (p, d) :: r => by rw [dueL, List.length_append, dueL_len r]; rfl
theorem openL_top (p d : Nat) (r : List (Nat × Nat)) : (openL ((p, d) :: r))[r.length + 1]! = (p : Int) := by
  rw [getElem!_pos _ _ (by rw [openL_len]; simp)]
  simp only [openL]
  rw [List.getElem_append_right (by rw [openL_len]; exact Nat.le_refl _)]
  simp [openL_len]
theorem dueL_top (p d : Nat) (r : List (Nat × Nat)) : (dueL ((p, d) :: r))[r.length]! = (d : Int) := by
  rw [getElem!_pos _ _ (by rw [dueL_len]; simp)]
  simp only [dueL]
  rw [List.getElem_append_right (by rw [dueL_len]; exact Nat.le_refl _)]
  simp [dueL_len]
theorem openL_pop (p d : Nat) (r : List (Nat × Nat)) : (openL ((p, d) :: r)).take (r.length + 1) = openL r := by
  rw [openL, ← openL_len r, List.take_left']
  rfl
theorem dueL_pop (p d : Nat) (r : List (Nat × Nat)) : (dueL ((p, d) :: r)).take r.length = dueL r := by
  rw [dueL, ← dueL_len r, List.take_left']
  rfl
theorem dueL_bump (p d e : Nat) (r : List (Nat × Nat)) : (dueL ((p, d) :: r)).set r.length (e : Int) = dueL ((p, e) :: r) := by
  simp only [dueL]
  rw [List.set_append_right _ _ (by rw [dueL_len]; exact Nat.le_refl _), dueL_len]
  simp
theorem openL_due (p d e : Nat) (r : List (Nat × Nat)) : openL ((p, d) :: r) = openL ((p, e) :: r) := rfl
/-- The k-th from the bottom. -/
theorem openL_at : ∀ (st : List (Nat × Nat)) (k : Nat) (h : k < st.length), (openL st)[k + 1]! = ((st.reverse[k]'(by simpa using h)).1 : Int) ∧ (dueL st)[k]! = ((st.reverse[k]'(by simpa using h)).2 : Int)
  | (p, d) :: r, k, h => by
    rcases Nat.lt_or_ge k r.length with hk | hk
    · obtain ⟨h1, h2⟩ := openL_at r k hk
      have e : ((p, d) :: r).reverse[k]'(by simpa using h) = r.reverse[k]'(by simpa using hk) := by
        simp only [List.reverse_cons]
        rw [List.getElem_append_left (by simpa using hk)]
      rw [e, ← h1, ← h2]
      constructor
      · rw [getElem!_pos _ _ (by rw [openL_len]; omega), getElem!_pos (openL r) _ (by rw [openL_len]; omega)]
        simp only [openL]
        rw [List.getElem_append_left (by rw [openL_len]; omega)]
      · rw [getElem!_pos _ _ (by rw [dueL_len]; exact h), getElem!_pos (dueL r) _ (by rw [dueL_len]; exact hk)]
        simp only [dueL]
        rw [List.getElem_append_left (by rw [dueL_len]; omega)]
    · obtain rfl : k = r.length := by simp at h; omega
      rw [openL_top, dueL_top]
      have e : ((p, d) :: r).reverse[r.length]'(by simp) = (p, d) := by
        simp only [List.reverse_cons]
        rw [List.getElem_append_right (by simp)]
        simp
      rw [e]
      exact ⟨rfl, rfl⟩
theorem popP_len (t : List NodeP) (st : List (Nat × Nat)) : (popP t st).length ≤ st.length := by
  obtain ⟨a, h, -⟩ := popP_sub t st
  have := congrArg List.length h
  rw [List.length_append] at this
  omega
theorem stepP_len {t : List NodeP} {i : Nat} {st st' : List (Nat × Nat)} {p : Int} (h : stepP t i st = some (p, st')) : st'.length ≤ st.length + 1 := by
  have hp := popP_len t st
  unfold stepP at h
  cases he : popP t st with
  | nil =>
    rw [he] at h
    simp only at h
    split at h
    · injection h with h; injection h with h1 h2; subst h2; simp
    · cases h
  | cons x r =>
    obtain ⟨q, d⟩ := x
    rw [he] at h hp
    simp only at h
    split at h
    · injection h with h; injection h with h1 h2; subst h2; simpa using hp
    · cases h
theorem goT_len {t : List NodeP} : ∀ {i : Nat} {up : List Int} {st : List (Nat × Nat)}, goT t i = some (up, st) → st.length ≤ i
  | 0, up, st, h => by rw [goT] at h; injection h with h; injection h with h1 h2; subst h2; simp
  | i + 1, up, st, h => by
    rw [goT] at h
    cases hg : goT t i with
    | none => rw [hg] at h; cases h
    | some x =>
      obtain ⟨u, s⟩ := x
      rw [hg] at h
      simp only at h
      cases hs : stepP t i s with
      | none => rw [hs] at h; cases h
      | some y =>
        obtain ⟨p, s'⟩ := y
        rw [hs] at h
        simp only at h
        injection h with h
        injection h with h1 h2
        subst h2
        have := stepP_len hs
        have := goT_len hg
        omega
theorem goT_next {t : List NodeP} {i : Nat} {up : List Int} {st st' : List (Nat × Nat)} {p : Int} (h : goT t i = some (up, st)) (hs : stepP t i st = some (p, st')) : goT t (i + 1) = some (up ++ [p], st') := by
  rw [goT, h]; simp only [hs]
theorem goT_stop {t : List NodeP} {i : Nat} {up : List Int} {st : List (Nat × Nat)} (h : goT t i = some (up, st)) (hs : stepP t i st = none) : goT t (i + 1) = none := by
  rw [goT, h]; simp only [hs]
theorem goT_none {t : List NodeP} {i : Nat} (h : goT t i = none) : ∀ j, i ≤ j → goT t j = none
  | 0, hj => by obtain rfl : i = 0 := by omega
                exact h
  | j + 1, hj => by
    rcases Nat.lt_or_ge j i with h1 | h1
    · obtain rfl : i = j + 1 := by omega
      exact h
    · rw [goT, goT_none h j h1]
theorem parents_stop {t : List NodeP} {i : Nat} {up : List Int} {st : List (Nat × Nat)} (hi : i < t.length) (h : goT t i = some (up, st)) (hs : stepP t i st = none) : parentsP t = none := by
  unfold parentsP
  split
  · rw [goT_none (goT_stop h hs) t.length (by omega)]
  · rfl
theorem parents_end {t : List NodeP} {up : List Int} {st : List (Nat × Nat)} (h0 : 0 < t.length) (hk : t[0]!.kind = 1) (h : goT t t.length = some (up, st)) : parentsP t = if doneP t st = true then some up else none := by
  unfold parentsP
  rw [if_pos ⟨h0, hk⟩, h]
theorem step_nil {t : List NodeP} {i : Nat} {st : List (Nat × Nat)} (h : popP t st = []) : stepP t i st = if i = 0 ∧ fieldsP t[i]! = true then some (-1, [(i, 0)]) else none := by unfold stepP; rw [h]
theorem step_cons {t : List NodeP} {i p d : Nat} {st r : List (Nat × Nat)} (h : popP t st = (p, d) :: r) : stepP t i st = if fieldsP t[i]! = true ∧ t[p]!.kids[d]! = (i : Int) ∧ holdsP t[p]!.kind t[i]!.kind = true ∧ t[p]!.fr ≤ t[i]!.fr ∧ t[i]!.to ≤ t[p]!.to then some ((p : Int), (i, 0) :: (p, d + 1) :: r) else none := by unfold stepP; rw [h]
theorem pop_done {t : List NodeP} {p d : Nat} {r : List (Nat × Nat)} (h : d = t[p]!.kids.length) : popP t ((p, d) :: r) = popP t r := by rw [popP, if_pos h]
theorem pop_stay {t : List NodeP} {p d : Nat} {r : List (Nat × Nat)} (h : d ≠ t[p]!.kids.length) : popP t ((p, d) :: r) = (p, d) :: r := by rw [popP, if_neg h]
theorem done_all {t : List NodeP} {st : List (Nat × Nat)} (h : ∀ k (hk : k < st.reverse.length), (st.reverse[k]).2 = t[(st.reverse[k]).1]!.kids.length) : doneP t st = true := by
  unfold doneP
  rw [List.all_eq_true]
  intro x hx
  obtain ⟨k, hk, rfl⟩ := List.mem_iff_getElem.1 (List.mem_reverse.2 hx)
  rw [beq_iff_eq]
  exact h k hk
theorem done_not {t : List NodeP} {st : List (Nat × Nat)} {k : Nat} (hk : k < st.reverse.length) (h : (st.reverse[k]).2 ≠ t[(st.reverse[k]).1]!.kids.length) : doneP t st = false := by
  unfold doneP
  rw [Bool.eq_false_iff]
  intro ha
  rw [List.all_eq_true] at ha
  have := ha _ (List.mem_reverse.1 (List.getElem_mem hk))
  rw [beq_iff_eq] at this
  exact h this
end Go.Proofs.YtlebikmiophghaaDoor
