/-
  foldS by fuel: for texts written out. Conditions: none.
-/
import Derived.Test.YtkomodicpfbkhaaDoorFoldL
namespace Go.Proofs.YtkomodicpfbkhaaDoor
open Go.Lib

def charsN : Nat → List UInt8 → List Int
  | 0, _ => []
  | n + 1, l => if l = [] then [] else ((decodeL l).1 : Int) :: charsN n (l.drop (decodeL l).2)
theorem charsL_fuel : ∀ n (l : List UInt8), l.length ≤ n → charsL l = charsN n l
  | 0, l, h => by
    have : l = [] := List.length_eq_zero_iff.1 (by omega)
    subst this; rw [charsL_nil]; rfl
  | n + 1, l, h => by
    by_cases hl : l = []
    · subst hl; rw [charsL_nil]; rfl
    · have := decodeL_width l
      rw [charsL_step l hl, charsL_fuel n _ (by rw [List.length_drop]; omega)]
      simp only [charsN, hl, if_false]
theorem foldS_eq (l : List UInt8) (n : Nat) (h : l.length = n) : foldS l = (foldGo false false (charsN n l)).flatMap encodeRune := by
  unfold foldS; rw [charsL_fuel n l (by omega)]

theorem ba_len (s : ByteArray) : s.data.toList.length = s.size := Array.length_toList
theorem ba_app (a b : ByteArray) : (a ++ b).data.toList = a.data.toList ++ b.data.toList := by
  rw [ByteArray.data_append, Array.toList_append]
theorem foldS_size (s : ByteArray) : (⟨(foldS s.data.toList).toArray⟩ : ByteArray).size ≤ 9 * s.size := by
  have := foldS_len s.data.toList
  rw [ba_len] at this
  show (foldS s.data.toList).toArray.size ≤ _
  rw [List.size_toArray]; exact this
theorem ba_list (l : List UInt8) : (⟨l.toArray⟩ : ByteArray).data.toList = l := rfl
theorem ba_size (l : List UInt8) : (⟨l.toArray⟩ : ByteArray).size = l.length := by simp [ByteArray.size]
end Go.Proofs.YtkomodicpfbkhaaDoor
