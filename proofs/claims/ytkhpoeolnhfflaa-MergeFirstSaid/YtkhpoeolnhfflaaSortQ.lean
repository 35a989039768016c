/-
  What symMerge, its searches and its moves make, in plain Lean. Conditions: 'less' is a strict weak order.
-/
import Derived.Test.YtkhpoeolnhfflaaSortP
set_option linter.unusedSectionVars false
set_option linter.unusedSimpArgs false
set_option linter.unusedVariables false
namespace Go.Proofs.Ytkhpoeolnhfflaa
open Go.Sort

variable {α : Type} [Inhabited α] {lt : α → α → Bool}

theorem pieces_one {f : Nat → Bool} (g : α → Bool) {lo s : Nat} (Z : List α) (h : Srch f lo (lo + Z.length) s s) (hf : ∀ k (hk : k < Z.length), f (lo + k) = g Z[k]) :
    ∃ Z1 Z2, Z = Z1 ++ Z2 ∧ lo + Z1.length = s ∧ (∀ z ∈ Z1, g z = false) ∧ (∀ z ∈ Z2, g z = true) := by
  obtain ⟨h1, _, h3, h4, h5⟩ := h
  refine ⟨Z.take (s - lo), Z.drop (s - lo), (List.take_append_drop _ _).symm, by simp; omega, fun z hz => ?_, fun z hz => ?_⟩
  · obtain ⟨i, hi, rfl⟩ := List.mem_iff_getElem.1 hz
    simp only [List.length_take] at hi
    rw [List.getElem_take, ← hf i (by omega)]
    exact h4 _ (by omega) (by omega)
  · obtain ⟨i, hi, rfl⟩ := List.mem_iff_getElem.1 hz
    simp only [List.length_drop] at hi
    rw [List.getElem_drop, ← hf (s - lo + i) (by omega)]
    exact h5 _ (by omega) (by omega)

section
variable (S : SWO lt) {d : Array α} {P X Y Q : List α}
include S

theorem mono_one_left (h : d.toList = P ++ X ++ Y ++ Q) (uY : Up lt Y) (x : α) (m : Nat) (hm : m = P.length + X.length) : ∀ c c', m ≤ c → c ≤ c' → c' < m + Y.length → (!lt d[c]! x) = true → (!lt d[c']! x) = true := by
  intro c c' h1 h2 h3 h4
  obtain ⟨k, rfl⟩ : ∃ k, c = m + k := ⟨c - m, by omega⟩
  obtain ⟨k', rfl⟩ : ∃ k, c' = m + k := ⟨c' - m, by omega⟩
  have hg : ∀ k (hk : k < Y.length), d[m + k]! = Y[k] := fun k hk => by
    have := get_in (d := d) (P := P ++ X) (X := Y) (Q := Q) h k hk
    rw [List.length_append] at this
    rw [hm]; exact this
  rw [hg _ (by omega)] at h4 ⊢
  have := up_get S uY k k' (by omega) (by omega)
  simp only [Bool.not_eq_true'] at h4 ⊢
  exact S.ntrans _ _ _ this h4
theorem mono_one_right (h : d.toList = P ++ X ++ Y ++ Q) (uX : Up lt X) (y : α) (a : Nat) (ha : a = P.length) : ∀ c c', a ≤ c → c ≤ c' → c' < a + X.length → lt y d[c]! = true → lt y d[c']! = true := by
  intro c c' h1 h2 h3 h4
  obtain ⟨k, rfl⟩ : ∃ k, c = a + k := ⟨c - a, by omega⟩
  obtain ⟨k', rfl⟩ : ∃ k, c' = a + k := ⟨c' - a, by omega⟩
  have hg : ∀ k (hk : k < X.length), d[a + k]! = X[k] := fun k hk => by
    rw [ha]; exact get_in (d := d) (P := P) (X := X) (Q := Y ++ Q) (by rw [h]; simp) k hk
  rw [hg _ (by omega)] at h4 ⊢
  exact lt_of_lt_le S h4 (up_get S uX k k' (by omega) (by omega))

theorem symm_pieces (h : d.toList = P ++ X ++ Y ++ Q) (uX : Up lt X) (uY : Up lt Y) (a m b mid lo hi : Nat) (ha : a = P.length) (hm : m = a + X.length) (hb : b = m + Y.length) (hX : 0 < X.length) (hY : 0 < Y.length)
    (hmid : mid = (a + b) / 2) (hlo : (mid < m ∧ lo = mid + m - b ∧ hi = mid) ∨ (m ≤ mid ∧ lo = a ∧ hi = m)) :
    (∀ c c', lo ≤ c → c ≤ c' → c' < hi → lt d[mid + m - 1 - c]! d[c]! = true → lt d[mid + m - 1 - c']! d[c']! = true) ∧
    ∀ s, Srch (fun c => lt d[mid + m - 1 - c]! d[c]!) lo hi s s → ∃ X1 X2 Y1 Y2, X = X1 ++ X2 ∧ Y = Y1 ++ Y2 ∧ a + X1.length = s ∧ s + Y1.length = mid ∧
      (∀ x ∈ X1, ∀ y ∈ Y2, lt y x = false) ∧ (∀ x ∈ X2, ∀ y ∈ Y1, lt y x = true) := by
  have hg : ∀ c, a ≤ c → c < m → d[c]! = X[c - a]! := fun c h1 h2 => by
    have := get_in (d := d) (P := P) (X := X) (Q := Y ++ Q) (by rw [h]; simp) (c - a) (by omega)
    rw [getElem!_pos X (c - a) (by omega), ← this, show P.length + (c - a) = c by omega]
  have hk : ∀ c, m ≤ c → c < b → d[c]! = Y[c - m]! := fun c h1 h2 => by
    have := get_in (d := d) (P := P ++ X) (X := Y) (Q := Q) h (c - m) (by omega)
    rw [List.length_append] at this
    rw [getElem!_pos Y (c - m) (by omega), ← this, show P.length + X.length + (c - m) = c by omega]
  have uX' : ∀ i j, i ≤ j → j < X.length → lt X[j]! X[i]! = false := fun i j h1 h2 => by
    rw [getElem!_pos X j h2, getElem!_pos X i (by omega)]; exact up_get S uX i j h1 h2
  have uY' : ∀ i j, i ≤ j → j < Y.length → lt Y[j]! Y[i]! = false := fun i j h1 h2 => by
    rw [getElem!_pos Y j h2, getElem!_pos Y i (by omega)]; exact up_get S uY i j h1 h2
  have hrng : a ≤ lo ∧ hi ≤ m ∧ hi ≤ mid ∧ mid + m - lo ≤ b ∧ lo ≤ hi := by omega
  have hf : ∀ c, lo ≤ c → c < hi → lt d[mid + m - 1 - c]! d[c]! = lt Y[mid - 1 - c]! X[c - a]! := fun c h1 h2 => by
    rw [hg c (by omega) (by omega), hk _ (by omega) (by omega), show mid + m - 1 - c - m = mid - 1 - c by omega]
  refine ⟨fun c c' h1 h2 h3 h4 => ?_, fun s hs => ?_⟩
  · rw [hf c h1 (by omega)] at h4
    rw [hf c' (by omega) h3]
    exact lt_of_lt_le S (lt_of_le_lt S (uY' (mid - 1 - c') (mid - 1 - c) (by omega) (by omega)) h4) (uX' (c - a) (c' - a) (by omega) (by omega))
  · obtain ⟨s1, _, s3, s4, s5⟩ := hs
    refine ⟨X.take (s - a), X.drop (s - a), Y.take (mid - s), Y.drop (mid - s), (List.take_append_drop _ _).symm, (List.take_append_drop _ _).symm, by simp; omega, by simp; omega, fun x hx y hy => ?_, fun x hx y hy => ?_⟩
    · obtain ⟨i, hi', rfl⟩ := List.mem_iff_getElem.1 hx
      obtain ⟨j, hj', rfl⟩ := List.mem_iff_getElem.1 hy
      simp only [List.length_take, List.length_drop] at hi' hj'
      rw [List.getElem_take, List.getElem_drop]
      have e := s4 (s - 1) (by omega) (by omega)
      simp only at e
      rw [hf (s - 1) (by omega) (by omega)] at e
      have e1 := uX' i (s - 1 - a) (by omega) (by omega)
      have e2 := uY' (mid - 1 - (s - 1)) (mid - s + j) (by omega) (by omega)
      rw [getElem!_pos X i (by omega)] at e1
      rw [getElem!_pos Y (mid - s + j) (by omega)] at e2
      exact S.ntrans _ _ _ (S.ntrans _ _ _ e2 e) e1
    · obtain ⟨i, hi', rfl⟩ := List.mem_iff_getElem.1 hx
      obtain ⟨j, hj', rfl⟩ := List.mem_iff_getElem.1 hy
      simp only [List.length_take, List.length_drop] at hi' hj'
      rw [List.getElem_take, List.getElem_drop]
      have e := s5 s (by omega) (by omega)
      simp only at e
      rw [hf s (by omega) (by omega)] at e
      have e1 := uX' (s - a) (s - a + i) (by omega) (by omega)
      have e2 := uY' j (mid - 1 - s) (by omega) (by omega)
      rw [getElem!_pos X (s - a + i) (by omega)] at e1
      rw [getElem!_pos Y j (by omega)] at e2
      exact lt_of_lt_le S (lt_of_le_lt S e2 e) e1
end

/-! ### moves -/
section
variable {d : Array α} {P Q U V M : List α}
theorem right_step {t : Nat} {x : α} (h : d.toList = P ++ V.take t ++ x :: (V.drop t ++ Q)) (ht : t < V.length) (i j : Nat) (hi : i = P.length + t) (hj : j = i + 1) :
    (swp d i j).toList = P ++ V.take (t + 1) ++ x :: (V.drop (t + 1) ++ Q) := by
  have ed : V.drop t = V[t] :: V.drop (t + 1) := List.drop_eq_getElem_cons ht
  have et : V.take (t + 1) = V.take t ++ [V[t]] := List.take_succ_eq_append_getElem ht
  have e := swp_lists (d := d) (P := P ++ V.take t) (M := []) (x := x) (y := V[t]) (Q := V.drop (t + 1) ++ Q) (by rw [h, ed]; rfl) i j (by simp; omega) (by simp; omega)
  rw [e, et]
  simp only [List.append_assoc, List.cons_append, List.nil_append]
theorem left_step {t : Nat} {y : α} (h : d.toList = P ++ V.take (t + 1) ++ y :: (V.drop (t + 1) ++ Q)) (ht : t < V.length) (i j : Nat) (hi : i = P.length + t) (hj : j = i + 1) :
    (swp d j i).toList = P ++ V.take t ++ y :: (V.drop t ++ Q) := by
  have ed : V.drop t = V[t] :: V.drop (t + 1) := List.drop_eq_getElem_cons ht
  have et : V.take (t + 1) = V.take t ++ [V[t]] := List.take_succ_eq_append_getElem ht
  have e := swp_lists' (d := d) (P := P ++ V.take t) (M := []) (x := V[t]) (y := y) (Q := V.drop (t + 1) ++ Q) (by rw [h, et]; simp only [List.append_assoc, List.cons_append, List.nil_append]) i j (by simp; omega) (by simp; omega)
  rw [e, ed]
  simp only [List.append_assoc, List.cons_append, List.nil_append]
theorem range_step {t : Nat} (h : d.toList = P ++ V.take t ++ U.drop t ++ M ++ U.take t ++ V.drop t ++ Q) (hu : t < U.length) (hv : t < V.length) (i j : Nat) (hi : i = P.length + t) (hj : j = P.length + U.length + M.length + t) :
    (swp d i j).toList = P ++ V.take (t + 1) ++ U.drop (t + 1) ++ M ++ U.take (t + 1) ++ V.drop (t + 1) ++ Q := by
  have ed : V.drop t = V[t] :: V.drop (t + 1) := List.drop_eq_getElem_cons hv
  have et : V.take (t + 1) = V.take t ++ [V[t]] := List.take_succ_eq_append_getElem hv
  have fd : U.drop t = U[t] :: U.drop (t + 1) := List.drop_eq_getElem_cons hu
  have ft : U.take (t + 1) = U.take t ++ [U[t]] := List.take_succ_eq_append_getElem hu
  have e := swp_lists (d := d) (P := P ++ V.take t) (M := U.drop (t + 1) ++ M ++ U.take t) (x := U[t]) (y := V[t]) (Q := V.drop (t + 1) ++ Q) (by rw [h, ed, fd]; simp only [List.append_assoc, List.cons_append, List.nil_append]) i j (by simp; omega) (by simp; omega)
  rw [e, et, ft]
  simp only [List.append_assoc, List.cons_append, List.nil_append]
end
end Go.Proofs.Ytkhpoeolnhfflaa
