/-
  Columns of a text, as plain functions; their laws. Conditions: none.
-/
import Derived.WalkKit
import Derived.Lib.Strings
namespace Go.Proofs.YtlebikmiophghaaDoor
open Go.Lib

/-- The column behind a byte. -/
def nextC (at_ : Int) (b : UInt8) : Int := if b = 9 then at_ / 4 * 4 + 4 else at_ + 1
/-- The column behind a text. -/
def colEnd (l : List UInt8) (at_ : Int) : Int := l.foldl nextC at_
def beginC (c : Int) : Int := max 0 (min c 1073741824)
def isInd (b : UInt8) : Bool := b == 32 || b == 9
/-- A text's blank beginning. -/
def indL (l : List UInt8) : List UInt8 := l.takeWhile isInd

theorem beginC_bound (c : Int) : 0 ≤ beginC c ∧ beginC c ≤ 1073741824 := by unfold beginC; omega
theorem beginC_id (c : Int) (h0 : 0 ≤ c) (h1 : c ≤ 1073741824) : beginC c = c := by unfold beginC; omega
theorem nextC_bound (at_ : Int) (b : UInt8) : at_ < nextC at_ b ∧ nextC at_ b ≤ at_ + 4 := by
  unfold nextC; split <;> omega
theorem colEnd_nil (at_ : Int) : colEnd [] at_ = at_ := rfl
theorem colEnd_cons (b : UInt8) (l : List UInt8) (at_ : Int) : colEnd (b :: l) at_ = colEnd l (nextC at_ b) := rfl
theorem colEnd_append (a b : List UInt8) (at_ : Int) : colEnd (a ++ b) at_ = colEnd b (colEnd a at_) := by
  unfold colEnd; rw [List.foldl_append]
theorem colEnd_bound (l : List UInt8) (at_ : Int) : at_ + l.length ≤ colEnd l at_ ∧ colEnd l at_ ≤ at_ + 4 * l.length := by
  induction l generalizing at_ with
  | nil => simp [colEnd]
  | cons b l ih =>
    rw [colEnd_cons, List.length_cons]
    have := nextC_bound at_ b
    have := ih (nextC at_ b)
    omega
theorem colEnd_take (l : List UInt8) (k : Nat) (h : k < l.length) (at_ : Int) : colEnd (l.take (k + 1)) at_ = nextC (colEnd (l.take k) at_) l[k] := by
  rw [List.take_succ_eq_append_getElem h, colEnd_append]; rfl
theorem colEnd_mono (l : List UInt8) (j k : Nat) (h : j ≤ k) (at_ : Int) : colEnd (l.take j) at_ ≤ colEnd (l.take k) at_ := by
  have e : l.take k = l.take j ++ (l.take k).drop j := by
    have h2 : (l.take k).take j = l.take j := by rw [List.take_take, Nat.min_eq_left h]
    rw [← h2, List.take_append_drop]
  rw [e, colEnd_append]
  have := (colEnd_bound ((l.take k).drop j) (colEnd (l.take j) at_)).1
  omega

theorem indL_split (l : List UInt8) : l = indL l ++ l.dropWhile isInd := (List.takeWhile_append_dropWhile).symm
theorem indL_le (l : List UInt8) : (indL l).length ≤ l.length := by
  have := congrArg List.length (indL_split l)
  rw [List.length_append] at this; omega
theorem indL_take (l : List UInt8) : l.take (indL l).length = indL l := by
  conv => lhs; rw [indL_split l]
  have : (indL (indL l ++ l.dropWhile isInd)).length = (indL l).length := by rw [← indL_split]
  rw [this, List.take_left']
  rfl
theorem indL_get (l : List UInt8) (k : Nat) (h : k < (indL l).length) (h2 : k < l.length) : (indL l)[k] = l[k] := by
  have e := indL_take l
  have : (l.take (indL l).length)[k]'(by rw [List.length_take]; omega) = l[k] := List.getElem_take
  rw [← this]
  congr 1
  exact e.symm
theorem indL_all (l : List UInt8) (k : Nat) (h : k < (indL l).length) : isInd (indL l)[k] = true :=
  List.all_eq_true.1 (List.all_takeWhile) _ (List.getElem_mem h)
/-- The blank beginning of what is behind some of it. -/
theorem indL_drop (l : List UInt8) : ∀ k, k ≤ (indL l).length → indL (l.drop k) = (indL l).drop k := by
  induction l with
  | nil => intro k h; simp [indL]
  | cons b l ih =>
    intro k h
    cases k with
    | zero => rfl
    | succ k =>
      cases hb : isInd b
      · have : indL (b :: l) = [] := by unfold indL; rw [List.takeWhile_cons_of_neg (by simp [hb])]
        rw [this] at h; simp at h
      · have e : indL (b :: l) = b :: indL l := by unfold indL; rw [List.takeWhile_cons_of_pos hb]
        rw [e] at h ⊢
        simp only [List.length_cons] at h
        rw [List.drop_succ_cons, List.drop_succ_cons]
        exact ih k (by omega)
theorem isInd_cases (b : UInt8) (h : isInd b = true) : b = 32 ∨ b = 9 := by
  unfold isInd at h; simpa using h

/-- How many of a row's bytes are ahead of a column. -/
structure DropAt (l : List UInt8) (col stop : Int) (g : Nat) : Prop where
  le : g ≤ (indL l).length
  at_ : colEnd ((indL l).take g) col ≤ stop
  more : g < (indL l).length → stop < colEnd ((indL l).take (g + 1)) col
/-- What is dropped. -/
theorem dropAt_facts {l : List UInt8} {col : Int} {all : Int} {n : Int} {g : Nat} (hn : 0 ≤ n) (hall : all = colEnd (indL l) col - col) (h : DropAt l col (col + max 0 (min n all)) g) :
    (colEnd ((indL l).take g) col < col + max 0 (min n all) → ∃ hg : g < l.length, l[g] = 9 ∧ nextC (colEnd ((indL l).take g) col) l[g] - (col + max 0 (min n all)) ≤ 3 ∧ 0 < nextC (colEnd ((indL l).take g) col) l[g] - (col + max 0 (min n all)) ∧ min n all + (nextC (colEnd ((indL l).take g) col) l[g] - (col + max 0 (min n all))) + (colEnd (indL (l.drop (g + 1))) (nextC (colEnd ((indL l).take g) col) l[g]) - nextC (colEnd ((indL l).take g) col) l[g]) = all) ∧
    (¬ colEnd ((indL l).take g) col < col + max 0 (min n all) → min n all + (colEnd (indL (l.drop g)) (col + max 0 (min n all)) - (col + max 0 (min n all))) = all) := by
  obtain ⟨hle, hat, hmore⟩ := h
  have hb := colEnd_bound (indL l) col
  have hmin : max 0 (min n all) = min n all := by omega
  rw [hmin] at hat hmore ⊢
  generalize hm : min n all = m at *
  have hma : m ≤ all := by omega
  have hll := indL_le l
  refine ⟨fun hlt => ?_, fun hge => ?_⟩
  · have hg : g < (indL l).length := by
      rcases Nat.lt_or_ge g (indL l).length with h1 | h1
      · exact h1
      · have : (indL l).take g = indL l := List.take_of_length_le h1
        rw [this] at hlt; omega
    have hgl : g < l.length := by omega
    have hmo := hmore hg
    rw [colEnd_take _ _ hg, indL_get l g hg hgl] at hmo
    have hnb := nextC_bound (colEnd ((indL l).take g) col) l[g]
    have h9 : l[g] = 9 := by
      have := indL_all l g hg
      rw [indL_get l g hg hgl] at this
      rcases isInd_cases _ this with h1 | h1
      · have h2 : nextC (colEnd ((indL l).take g) col) l[g] = colEnd ((indL l).take g) col + 1 := by
          unfold nextC; rw [h1]; simp
        omega
      · exact h1
    refine ⟨hgl, h9, by omega, by omega, ?_⟩
    rw [indL_drop l (g + 1) (by omega)]
    have e : colEnd ((indL l).drop (g + 1)) (nextC (colEnd ((indL l).take g) col) l[g]) = colEnd (indL l) col := by
      rw [← indL_get l g hg hgl, ← colEnd_take _ _ hg, ← colEnd_append, List.take_append_drop]
    rw [e]; omega
  · have e : colEnd ((indL l).take g) col = col + m := by omega
    rw [indL_drop l g hle, ← e, ← colEnd_append, List.take_append_drop, e]
    omega
end Go.Proofs.YtlebikmiophghaaDoor
