/-
  Stable sorting in plain Lean: insertion, merging, and what slices' symMerge, rotate and insertionSort make. Conditions: 'less' is a strict weak order.
-/
import Derived.Shelf.SlSortCmp.KitK
set_option linter.unusedSectionVars false
set_option linter.unusedSimpArgs false
set_option linter.unusedVariables false
namespace Go.Proofs.Ytkhpoeolnhfflaa
open Go.Sort

theorem snoc_ind {α : Type} {p : List α → Prop} (h0 : p []) (h1 : ∀ l x, p l → p (l ++ [x])) : ∀ l, p l := fun l => by
  rw [← List.reverse_reverse l]
  induction l.reverse with
  | nil => exact h0
  | cons x t ih => rw [List.reverse_cons]; exact h1 _ _ ih

section
variable {α : Type} (lt : α → α → Bool)

/-- An element is put ahead of the first one that it is less than. -/
def ins (y : α) : List α → List α
  | [] => [y]
  | x :: xs => if lt y x then y :: x :: xs else x :: ins y xs
def ss (l : List α) : List α := l.foldl (fun acc y => ins lt y acc) []
def mrg : List α → List α → List α
  | [], ys => ys
  | x :: xs, [] => x :: xs
  | x :: xs, y :: ys => if lt y x then y :: mrg (x :: xs) ys else x :: mrg xs (y :: ys)
termination_by xs ys => xs.length + ys.length
def Up (l : List α) : Prop := l.Pairwise fun a b => lt b a = false

@[simp] theorem mrg_nil_left (ys : List α) : mrg lt [] ys = ys := by rw [mrg]
@[simp] theorem mrg_nil_right (xs : List α) : mrg lt xs [] = xs := by cases xs <;> rw [mrg]
theorem mrg_length : ∀ xs ys : List α, (mrg lt xs ys).length = xs.length + ys.length
  | [], ys => by simp
  | x :: xs, [] => by simp
  | x :: xs, y :: ys => by
    rw [mrg]
    split
    · simp only [List.length_cons, mrg_length (x :: xs) ys]; omega
    · simp only [List.length_cons, mrg_length xs (y :: ys)]; omega
termination_by xs ys => xs.length + ys.length
theorem mrg_cons (x y : α) (xs ys : List α) : mrg lt (x :: xs) (y :: ys) = if lt y x then y :: mrg lt (x :: xs) ys else x :: mrg lt xs (y :: ys) := by rw [mrg]

theorem ins_perm (y : α) : ∀ l : List α, (ins lt y l).Perm (y :: l)
  | [] => .refl _
  | x :: xs => by
    unfold ins
    split
    · exact .refl _
    · exact ((ins_perm y xs).cons x).trans (.swap y x xs)
@[simp] theorem ins_length (y : α) (l : List α) : (ins lt y l).length = l.length + 1 := by simpa using (ins_perm lt y l).length_eq
theorem ss_snoc (l : List α) (y : α) : ss lt (l ++ [y]) = ins lt y (ss lt l) := by simp [ss]
theorem ss_perm : ∀ l : List α, (ss lt l).Perm l := by
  refine snoc_ind ?_ ?_
  · exact .refl _
  · intro l y ih; rw [ss_snoc]; exact (ins_perm lt y _).trans ((ih.cons y).trans (List.perm_append_comm (l₁ := [y])))
@[simp] theorem ss_length (l : List α) : (ss lt l).length = l.length := (ss_perm lt l).length_eq

variable {lt}
variable (S : SWO lt)
include S

theorem ins_up (y : α) : ∀ l : List α, Up lt l → Up lt (ins lt y l)
  | [], _ => List.pairwise_singleton _ _
  | x :: xs, h => by
    have h := List.pairwise_cons.1 h
    unfold ins
    split
    · rename_i hl
      refine List.pairwise_cons.2 ⟨fun b hb => ?_, List.pairwise_cons.2 h⟩
      have hyx : lt x y = false := by
        cases hc : lt x y
        · rfl
        · have := S.trans _ _ _ hl hc; rw [S.irrefl] at this; cases this
      rcases List.mem_cons.1 hb with rfl | hb
      · exact hyx
      · exact S.ntrans _ _ _ (h.1 b hb) hyx
    · rename_i hl
      refine List.pairwise_cons.2 ⟨fun b hb => ?_, ins_up y xs h.2⟩
      rcases List.mem_cons.1 ((ins_perm lt y xs).mem_iff.1 hb) with rfl | hb
      · simpa using hl
      · exact h.1 b hb
theorem ss_up : ∀ l : List α, Up lt (ss lt l) := by
  refine snoc_ind ?_ ?_
  · exact List.Pairwise.nil
  · intro l y ih; rw [ss_snoc]; exact ins_up S y _ ih

theorem mrg_ins (y : α) : ∀ A B : List α, mrg lt A (ins lt y B) = ins lt y (mrg lt A B)
  | [], B => by simp
  | a :: A, [] => by
    have ih := mrg_ins y A []
    simp only [ins, mrg_nil_right] at ih
    simp only [ins, mrg_nil_right, mrg_cons]
    split
    · rfl
    · rw [ih]
  | a :: A, b :: B => by
    have ih1 := mrg_ins y A (b :: B)
    have ih2 := mrg_ins y (a :: A) B
    by_cases h1 : lt y b = true
    · have e1 : ins lt y (b :: B) = y :: b :: B := by simp [ins, h1]
      rw [e1] at ih1 ⊢
      rw [mrg_cons]
      by_cases h2 : lt y a = true
      · rw [if_pos h2, mrg_cons]
        split
        · simp [ins, h1]
        · simp [ins, h2]
      · have h3 : ¬ lt b a = true := fun h => h2 (S.trans _ _ _ h1 h)
        rw [if_neg h2, mrg_cons, if_neg h3, ih1]
        simp [ins, h2]
    · have e1 : ins lt y (b :: B) = b :: ins lt y B := by simp [ins, h1]
      rw [e1] at ih1 ⊢
      rw [mrg_cons, mrg_cons]
      by_cases h2 : lt b a = true
      · rw [if_pos h2, if_pos h2, ih2]
        simp [ins, h1]
      · rw [if_neg h2, if_neg h2, ih1]
        have h3 : ¬ lt y a = true := by
          have := S.ntrans y b a (by simpa using h1) (by simpa using h2)
          simp [this]
        simp [ins, h3]
termination_by A B => A.length + B.length
theorem mrg_ss (X : List α) : ∀ Y : List α, mrg lt (ss lt X) (ss lt Y) = ss lt (X ++ Y) := by
  refine snoc_ind ?_ ?_
  · simp [ss]
  · intro l y ih; rw [ss_snoc, mrg_ins S, ih, ← List.append_assoc, ss_snoc]

omit S in
theorem mrg_split : ∀ (X1 Y1 : List α) (X2 Y2 : List α), (∀ a ∈ X1, ∀ b ∈ Y2, lt b a = false) → (∀ a ∈ X2, ∀ b ∈ Y1, lt b a = true) → mrg lt (X1 ++ X2) (Y1 ++ Y2) = mrg lt X1 Y1 ++ mrg lt X2 Y2
  | [], [], X2, Y2, _, _ => by simp
  | [], b :: Y1, X2, Y2, h1, h2 => by
    have ih := mrg_split [] Y1 X2 Y2 h1 (fun a ha c hc => h2 a ha c (List.mem_cons_of_mem _ hc))
    simp only [List.nil_append, mrg_nil_left] at ih ⊢
    cases X2 with
    | nil => simp
    | cons a X2 =>
      rw [List.cons_append, mrg_cons, if_pos (h2 a (by simp) b (by simp)), ih]; rfl
  | a :: X1, [], X2, Y2, h1, h2 => by
    have ih := mrg_split X1 [] X2 Y2 (fun x hx => h1 x (List.mem_cons_of_mem _ hx)) h2
    simp only [List.nil_append, mrg_nil_right] at ih ⊢
    cases Y2 with
    | nil => simp
    | cons b Y2 =>
      rw [List.cons_append, mrg_cons, if_neg (by rw [h1 a (by simp) b (by simp)]; simp), ih]; rfl
  | a :: X1, b :: Y1, X2, Y2, h1, h2 => by
    have ih1 := mrg_split X1 (b :: Y1) X2 Y2 (fun x hx => h1 x (List.mem_cons_of_mem _ hx)) h2
    have ih2 := mrg_split (a :: X1) Y1 X2 Y2 h1 (fun a ha c hc => h2 a ha c (List.mem_cons_of_mem _ hc))
    simp only [List.cons_append] at ih1 ih2 ⊢
    rw [mrg_cons, mrg_cons, ih1, ih2]
    split <;> rfl
termination_by X1 Y1 => X1.length + Y1.length

omit S in
theorem mrg_one_left (x : α) (Y1 Y2 : List α) (h1 : ∀ y ∈ Y1, lt y x = true) (h2 : ∀ y ∈ Y2, lt y x = false) : mrg lt [x] (Y1 ++ Y2) = Y1 ++ x :: Y2 := by
  have e1 := mrg_split (lt := lt) [] Y1 [x] Y2 (by simp) (by simpa using h1)
  have e2 := mrg_split (lt := lt) [x] [] [] Y2 (by simpa using h2) (by simp)
  simp only [List.nil_append, mrg_nil_left, mrg_nil_right, List.append_nil] at e1 e2
  rw [e1, e2]; rfl
omit S in
theorem mrg_one_right (y : α) (X1 X2 : List α) (h1 : ∀ x ∈ X1, lt y x = false) (h2 : ∀ x ∈ X2, lt y x = true) : mrg lt (X1 ++ X2) [y] = X1 ++ y :: X2 := by
  have e1 := mrg_split (lt := lt) X1 [] X2 [y] (by simpa using h1) (by simp)
  have e2 := mrg_split (lt := lt) [] [y] X2 [] (by simp) (by simpa using h2)
  simp only [List.nil_append, mrg_nil_left, mrg_nil_right, List.append_nil] at e1 e2
  rw [e1, e2]; rfl

/-! ### binary search -/
omit S in
section
def Srch (f : Nat → Bool) (lo hi i j : Nat) : Prop := lo ≤ i ∧ i ≤ j ∧ j ≤ hi ∧ (∀ c, lo ≤ c → c < i → f c = false) ∧ (∀ c, j ≤ c → c < hi → f c = true)
theorem Srch.start {f : Nat → Bool} {lo hi : Nat} (h : lo ≤ hi) : Srch f lo hi lo hi := ⟨Nat.le_refl _, h, Nat.le_refl _, fun c h1 h2 => by omega, fun c h1 h2 => by omega⟩
theorem Srch.left {f : Nat → Bool} {lo hi i j c : Nat} (h : Srch f lo hi i j) (hm : ∀ c c', lo ≤ c → c ≤ c' → c' < hi → f c = true → f c' = true) (h1 : i ≤ c) (h2 : c < j) (hc : f c = false) : Srch f lo hi (c + 1) j := by
  obtain ⟨a, b, d, e, g⟩ := h
  refine ⟨by omega, by omega, d, fun x h3 h4 => ?_, g⟩
  cases hx : f x
  · rfl
  · rw [hm x c h3 (by omega) (by omega) hx] at hc; cases hc
theorem Srch.right {f : Nat → Bool} {lo hi i j c : Nat} (h : Srch f lo hi i j) (hm : ∀ c c', lo ≤ c → c ≤ c' → c' < hi → f c = true → f c' = true) (h1 : i ≤ c) (h2 : c < j) (hc : f c = true) : Srch f lo hi i c := by
  obtain ⟨a, b, d, e, g⟩ := h
  exact ⟨a, by omega, by omega, e, fun x h3 h4 => hm c x (by omega) h3 h4 hc⟩
end

/-! ### arrays as lists -/
variable [Inhabited α]
omit S in
theorem get_at {d : Array α} {P Q : List α} {x : α} (h : d.toList = P ++ x :: Q) (i : Nat) (hi : i = P.length) : d[i]! = x ∧ i < d.size := by
  subst hi
  have hs : d.size = P.length + (Q.length + 1) := by rw [← Array.length_toList, h]; simp
  refine ⟨?_, by omega⟩
  rw [getElem!_pos d P.length (by omega), ← Array.getElem_toList]
  simp [h]
omit S in
theorem get_in {d : Array α} {P X Q : List α} (h : d.toList = P ++ X ++ Q) (j : Nat) (hj : j < X.length) : d[P.length + j]! = X[j] := by
  have hs : d.size = P.length + X.length + Q.length := by rw [← Array.length_toList, h]; simp; omega
  rw [getElem!_pos d (P.length + j) (by omega), ← Array.getElem_toList]
  simp [h, hj]
omit S in
theorem swp_lists {d : Array α} {P M Q : List α} {x y : α} (h : d.toList = P ++ x :: (M ++ y :: Q)) (i j : Nat) (hi : i = P.length) (hj : j = P.length + 1 + M.length) : (swp d i j).toList = P ++ y :: (M ++ x :: Q) := by
  subst hi hj
  have g1 := (get_at h P.length rfl).1
  have g2 := (get_at (d := d) (P := P ++ x :: M) (x := y) (Q := Q) (by rw [h]; simp) (P.length + 1 + M.length) (by simp; omega)).1
  unfold swp
  rw [g1, g2]
  simp only [Array.toList_setIfInBounds, h]
  rw [List.set_append_right _ _ (by omega)]
  simp only [Nat.sub_self, List.set_cons_zero]
  rw [List.set_append_right _ _ (by omega)]
  rw [show P.length + 1 + M.length - P.length = M.length + 1 by omega, List.set_cons_succ, List.set_append_right _ _ (by omega)]
  simp
omit S in
theorem swp_comm (d : Array α) (i j : Nat) (hi : i < d.size) (hj : j < d.size) : swp d i j = swp d j i := by
  by_cases he : i = j
  · rw [he]
  · refine Array.ext_getElem? fun k => ?_
    unfold swp
    simp only [Array.getElem?_setIfInBounds]
    split <;> split <;> simp_all
omit S in
theorem swp_lists' {d : Array α} {P M Q : List α} {x y : α} (h : d.toList = P ++ x :: (M ++ y :: Q)) (i j : Nat) (hi : i = P.length) (hj : j = P.length + 1 + M.length) : (swp d j i).toList = P ++ y :: (M ++ x :: Q) := by
  have hs : d.size = P.length + 1 + M.length + 1 + Q.length := by rw [← Array.length_toList, h]; simp; omega
  rw [swp_comm d j i (by omega) (by omega)]
  exact swp_lists h i j hi hj

/-! ### insertion sort -/
theorem ins_last (y x : α) : ∀ L : List α, Up lt (L ++ [x]) → ins lt y (L ++ [x]) = if lt y x then ins lt y L ++ [x] else L ++ [x, y]
  | [], _ => by simp only [List.nil_append, ins]; split <;> rfl
  | z :: L, h => by
    have h := List.pairwise_cons.1 (show ((z :: (L ++ [x])).Pairwise _) from h)
    have ih := ins_last y x L h.2
    simp only [List.cons_append, ins]
    by_cases h1 : lt y x = true
    · rw [if_pos h1] at ih ⊢
      rw [ih]
      split <;> rfl
    · rw [if_neg h1] at ih ⊢
      have h2 : ¬ lt y z = true := by
        have := S.ntrans y x z (by simpa using h1) (h.1 x (by simp))
        simp [this]
      rw [if_neg h2, ih]
theorem insInner_lists : ∀ (L : List α) (d : Array α) (P Q : List α) (y : α) (a j : Nat), d.toList = P ++ L ++ y :: Q → a = P.length → j = P.length + L.length → Up lt L → (insInner lt a j d).toList = P ++ ins lt y L ++ Q := by
  refine snoc_ind ?_ ?_
  · intro d P Q y a j h ha hj _
    rw [insInner_stop _ _ _ _ (.inl (by simp at hj; omega)), h]
    simp [ins]
  · intro L x ih d P Q y a j h ha hj hu
    have gx := (get_at (d := d) (P := P ++ L) (x := x) (Q := y :: Q) (by rw [h]; simp) (j - 1) (by simp at hj ⊢; omega)).1
    have gy := (get_at (d := d) (P := P ++ (L ++ [x])) (x := y) (Q := Q) (by rw [h]) j (by simp at hj ⊢; omega)).1
    rw [ins_last S y x L hu]
    cases hl : lt y x
    · rw [insInner_stop _ _ _ _ (.inr (by rw [gx, gy, hl])), h]
      simp
    · rw [insInner_go _ _ _ _ (by simp at hj; omega) (by rw [gx, gy, hl])]
      have e := swp_lists' (d := d) (P := P ++ L) (M := []) (Q := Q) (x := x) (y := y) (by rw [h]; simp) (j - 1) j (by simp at hj ⊢; omega) (by simp at hj ⊢; omega)
      rw [ih (swp d j (j - 1)) P (x :: Q) y a (j - 1) (by rw [e]; simp) ha (by simp at hj; omega) (List.pairwise_append.1 hu).1]
      simp
theorem insOuter_lists : ∀ (R L : List α) (d : Array α) (P Q : List α) (a b i : Nat), d.toList = P ++ ss lt L ++ R ++ Q → a = P.length → i = P.length + L.length → b = i + R.length → (insOuter lt a b i d).toList = P ++ ss lt (L ++ R) ++ Q
  | [], L, d, P, Q, a, b, i, h, _, _, hb => by
    rw [insOuter_stop _ _ _ _ _ (by simp at hb; omega), h]; simp
  | y :: R, L, d, P, Q, a, b, i, h, ha, hi, hb => by
    rw [insOuter_go _ _ _ _ _ (by simp at hb; omega)]
    have e := insInner_lists S (ss lt L) d P (R ++ Q) y a i (by rw [h]; simp) ha (by simp; omega) (ss_up S L)
    rw [insOuter_lists R (L ++ [y]) _ P Q a b (i + 1) (by rw [e, ss_snoc]; simp) ha (by simp; omega) (by simp at hb; omega)]
    simp
theorem insertionSort_lists (d : Array α) (P X Q : List α) (a b : Nat) (h : d.toList = P ++ X ++ Q) (ha : a = P.length) (hb : b = P.length + X.length) : (insertionSort lt d a b).toList = P ++ ss lt X ++ Q := by
  unfold insertionSort
  cases X with
  | nil => rw [insOuter_stop _ _ _ _ _ (by simp at hb; omega), h]; simp [ss]
  | cons x X =>
    have e : ss lt [x] = [x] := rfl
    rw [insOuter_lists S X [x] d P Q a b (a + 1) (by rw [h, e]; simp) ha (by simp; omega) (by simp at hb; omega)]
    simp

/-! ### symMerge's search -/
theorem up_get {X : List α} (h : Up lt X) (i j : Nat) (hij : i ≤ j) (hj : j < X.length) : lt X[j] X[i] = false := by
  rcases Nat.lt_or_ge i j with hlt | hge
  · exact List.pairwise_iff_getElem.1 h i j (by omega) hj hlt
  · obtain rfl : i = j := by omega
    exact S.irrefl _
theorem lt_of_lt_le {x y z : α} (h1 : lt x y = true) (h2 : lt z y = false) : lt x z = true := by
  cases h : lt x z
  · rw [S.ntrans _ _ _ h h2] at h1; cases h1
  · rfl
theorem lt_of_le_lt {x y z : α} (h1 : lt y x = false) (h2 : lt y z = true) : lt x z = true := by
  cases h : lt x z
  · rw [S.ntrans _ _ _ h1 h] at h2; cases h2
  · rfl
end

/-! ### chunks -/
section
variable {α : Type} (lt : α → α → Bool)
/-- Each piece of s elements in order. -/
def cs (s : Nat) (l : List α) : List α :=
  if h : l = [] ∨ s = 0 then [] else ss lt (l.take s) ++ cs s (l.drop s)
termination_by l.length
decreasing_by
  have : l.length ≠ 0 := fun e => h (.inl (List.length_eq_zero_iff.1 e))
  have : s ≠ 0 := fun e => h (.inr e)
  simp; omega
theorem cs_nil (s : Nat) : cs lt s [] = [] := by rw [cs]; simp
theorem cs_step (s : Nat) (hs : 0 < s) (l : List α) : cs lt s l = ss lt (l.take s) ++ cs lt s (l.drop s) := by
  by_cases h : l = []
  · subst h; simp [cs_nil, ss]
  · conv => lhs; rw [cs]
    rw [dif_neg (by simp [h]; omega)]
theorem cs_small (s : Nat) (hs : 0 < s) (l : List α) (h : l.length ≤ s) : cs lt s l = ss lt l := by
  rw [cs_step lt s hs, List.take_of_length_le h, List.drop_of_length_le h, cs_nil, List.append_nil]
end
end Go.Proofs.Ytkhpoeolnhfflaa
