/-
  The walk of TextCleans: it returns true whatever the text. Conditions: none.
-/
import Derived.Test.YtnijcglmfpiheaaRefClean
namespace Go.Proofs.Ytnijcglmfpiheaa
open Go.RowKit Go.Lib

theorem ret_bool {a b : Bool} (h : a = b) : Ending.returned (.bool a) = .returned (.bool b) := by rw [h]

theorem mapD_len (f : Int → Int) (l : List UInt8) : (mapD f l).length ≤ 4 * l.length := by
  generalize hn : l.length = n
  induction n using Nat.strongRecOn generalizing l with
  | ind n ih =>
    by_cases hne : l = []
    · subst hne; simp [mapD_nil]
    · have hw := decodeL_width l
      have hl : 0 < l.length := List.length_pos_iff.2 hne
      have h4 := encodeRune_le (f (decodeL l).1)
      have h := ih _ (by rw [List.length_drop]; omega) (l.drop (decodeL l).2) rfl
      rw [List.length_drop] at h
      rw [mapD_step f l hne, List.length_append]
      split
      · omega
      · simp; omega

namespace textCleans
set_option maxHeartbeats 4000000 in
theorem walk (s : ByteArray) (_hs : s.size ≤ maxLen) (w : World) :
    Calls Try.prog 5 #[.string s] w fun e w' => e = .returned (.bool true) ∧ Below w.heap.size w w' := by
  have C1 := Lib.hid (show cleanL [97, 255, 98] = [97, 239, 191, 189, 98] by decide +kernel)
  have C2 := Lib.hid (show cleanL [0] = [239, 191, 189] by decide +kernel)
  have CT := Lib.hid (cleanL_twice s.data.toList)
  by_cases hbig : 100000 < s.size
  · go_enter Try.func5, Try.ntmps5
    go_wp2_with fail
    refine (clean_any _ _ (by decide)).mono ?_
    rintro e w1 ⟨rfl, b1⟩
    rw [C1.out]
    go_wp2_with fail
    refine (clean_any _ _ (by decide)).mono ?_
    rintro e w2 ⟨rfl, b2⟩
    rw [C2.out]
    go_wp2_with fail
    go_ret
    exact ⟨rfl, b1.trans (b2.mono b1.size)⟩
  · have hl : (cleanL s.data.toList).length ≤ 400000 := by
      have := mapD_len cleanF s.data.toList
      have e2 : s.data.size = s.size := rfl
      simp only [Array.length_toList, e2] at this
      exact Nat.le_trans this (by omega)
    go_enter Try.func5, Try.ntmps5
    go_wp2_with fail
    refine (clean_any _ _ (by decide)).mono ?_
    rintro e w1 ⟨rfl, b1⟩
    rw [C1.out]
    go_wp2_with fail
    refine (clean_any _ _ (by decide)).mono ?_
    rintro e w2 ⟨rfl, b2⟩
    rw [C2.out]
    go_wp2_with fail
    refine (clean_any s _ (by omega)).mono ?_
    rintro e w3 ⟨rfl, b3⟩
    go_wp2_with fail
    refine (ref_clean_any s _ (by omega)).mono ?_
    rintro e w4 ⟨rfl, b4⟩
    go_wp2_with fail
    refine (clean_any _ _ (by show (cleanL s.data.toList).toArray.size ≤ _; simp; omega)).mono ?_
    rintro e w5 ⟨rfl, b5⟩
    rw [CT.out]
    go_wp2_with fail
    go_ret
    have z1 := b1.size
    have z2 := b2.size
    have z3 := b3.size
    have z4 := b4.size
    exact ⟨ret_bool (by simp), b1.trans ((b2.mono (by omega)).trans ((b3.mono (by omega)).trans ((b4.mono (by omega)).trans (b5.mono (by omega)))))⟩
end textCleans
end Go.Proofs.Ytnijcglmfpiheaa
