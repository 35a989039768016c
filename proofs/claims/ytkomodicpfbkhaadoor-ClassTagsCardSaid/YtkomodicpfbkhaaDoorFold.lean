/-
  class.fold: a character folded, as bytes. Conditions: a character.
-/
import Derived.Test.YtkomodicpfbkhaaDoorBlank
import Derived.Test.YtkomodicpfbkhaaDoorUtf
namespace Go.Proofs.YtkomodicpfbkhaaDoor
open Go.RowKit Go.Lib

def ups : List (Int × Int) := [(65, 90), (192, 222), (913, 939), (1040, 1071)]
def ups2 : List (Int × Int) := [(1024, 1039)]
/-- A character folded. -/
def foldZ (r : Int) : List Int :=
  if r = 215 ∨ r = 930 then [r] else if inSpans r ups then [r + 32] else if inSpans r ups2 then [r + 80] else if r = 223 ∨ r = 7838 then [115, 115] else [r]
def foldB (r : Int) : List UInt8 := (foldZ r).flatMap encodeRune

theorem foldZ_isRune (r : Int) (hr : IsRune r) : ∀ x ∈ foldZ r, IsRune x := by
  intro x hx
  unfold foldZ at hx
  repeat' split at hx
  all_goals simp only [List.mem_cons, List.mem_nil_iff, or_false, or_self] at hx
  all_goals subst hx
  all_goals try exact hr
  · rename_i h
    simp [inSpans, ups] at h
    unfold IsRune; omega
  · rename_i h
    simp [inSpans, ups2] at h
    unfold IsRune; omega
  · unfold IsRune; omega

theorem encodeRune_le4 (r : Int) : (encodeRune r).length ≤ 4 := by
  have := runeCells_le r
  rw [runeCells_length] at this
  omega
theorem foldB_le (r : Int) : (foldB r).length ≤ 8 := by
  unfold foldB foldZ
  have := encodeRune_le4 r
  have := encodeRune_le4 (r + 32)
  have := encodeRune_le4 (r + 80)
  have := encodeRune_le4 115
  repeat' split
  all_goals simp
  all_goals omega

theorem ret_string {a b : ByteArray} (h : a = b) : Ending.returned (.string a) = .returned (.string b) := by rw [h]
theorem flat_one (x : Int) : [x].flatMap encodeRune = encodeRune x := by simp

set_option maxHeartbeats 2000000 in
theorem fold_any (r : Int) (hr : IsRune r) (w : World) : Calls Tryd.prog 29 #[.int .i64 r] w fun e w' => e = .returned (.string ⟨(foldB r).toArray⟩) ∧ Below w.heap.size w w' := by
  have hrr := hr
  unfold IsRune at hr
  by_cases h1 : r = 215 ∨ r = 930
  · have HF := Lib.hid (show foldB r = encodeRune r by unfold foldB foldZ; rw [if_pos h1, flat_one])
    have HE := Lib.hid (encode_eq r hrr)
    rcases h1 with rfl | rfl
    all_goals
      go_enter Tryd.func29, Tryd.ntmps29
      go_wp2
      go_ret
      exact ⟨by rw [HF.out, ← HE.out]; rfl, Below.refl _ _⟩
  · have n1 : (r == 215) = false := by simp; omega
    have n2 : (r == 930) = false := by simp; omega
    by_cases h2 : inSpans r ups = true
    · have HF := Lib.hid (show foldB r = encodeRune (r + 32) by unfold foldB foldZ; rw [if_neg h1, if_pos h2, flat_one])
      have hr2 := foldZ_isRune r hrr (r + 32) (by unfold foldZ; rw [if_neg h1, if_pos h2]; simp)
      have HE := Lib.hid (encode_eq (r + 32) hr2)
      unfold IsRune at hr2
      go_enter Tryd.func29, Tryd.ntmps29
      go_wp2_with (go_at_call 44; refine (within_any r ups w.heap.size _ (by decide) (by simp) (new_cells w ups _)).mono ?_; rintro e w' ⟨rfl, hb⟩; rw [h2])
      go_ret
      exact ⟨by rw [HF.out, ← HE.out]; rfl, ((Below.refl _ _).alloc (Nat.le_refl _) _).trans (hb.mono (by simp))⟩
    · rw [Bool.not_eq_true] at h2
      by_cases h3 : inSpans r ups2 = true
      · have HF := Lib.hid (show foldB r = encodeRune (r + 80) by unfold foldB foldZ; rw [if_neg h1, if_neg (by rw [h2]; decide), if_pos h3, flat_one])
        have hr2 := foldZ_isRune r hrr (r + 80) (by unfold foldZ; rw [if_neg h1, if_neg (by rw [h2]; decide), if_pos h3]; simp)
        have HE := Lib.hid (encode_eq (r + 80) hr2)
        unfold IsRune at hr2
        go_enter Tryd.func29, Tryd.ntmps29
        go_wp2_with fail
        refine (within_any r ups w.heap.size _ (by decide) (by simp) (new_cells w ups _)).mono ?_
        rintro e w1 ⟨rfl, hb⟩
        rw [h2]
        go_wp2_with fail
        refine (within_any r ups2 w1.heap.size _ (by decide) (by simp) (new_cells w1 ups2 _)).mono ?_
        rintro e w2 ⟨rfl, hb2⟩
        rw [h3]
        have hbb : Below w.heap.size w w2 := (((Below.refl _ w).alloc (Nat.le_refl _) _).trans (hb.mono (by simp))).trans (((Below.refl _ w1).alloc (by have := hb.size; simp at this; omega) _).trans (hb2.mono (by have := hb.size; simp at this ⊢; omega)))
        go_wp2_with fail
        go_ret
        exact ⟨by rw [HF.out, ← HE.out]; rfl, hbb⟩
      · rw [Bool.not_eq_true] at h3
        have hz : ¬ inSpans r ups = true := by rw [h2]; decide
        have hz2 : ¬ inSpans r ups2 = true := by rw [h3]; decide
        by_cases h4 : r = 223 ∨ r = 7838
        · have HF := Lib.hid (show foldB r = [115, 115] by unfold foldB foldZ; rw [if_neg h1, if_neg hz, if_neg hz2, if_pos h4]; decide)
          have m1 : ((r == 223) || (r == 7838)) = true := by simp; omega
          rcases h4 with rfl | rfl
          all_goals
            go_enter Tryd.func29, Tryd.ntmps29
            go_wp2_with fail
            refine (within_any _ ups w.heap.size _ (by decide) (by simp) (new_cells w ups _)).mono ?_
            rintro e w1 ⟨rfl, hb⟩
            rw [h2]
            go_wp2_with fail
            refine (within_any _ ups2 w1.heap.size _ (by decide) (by simp) (new_cells w1 ups2 _)).mono ?_
            rintro e w2 ⟨rfl, hb2⟩
            rw [h3]
            have hbb : Below w.heap.size w w2 := (((Below.refl _ w).alloc (Nat.le_refl _) _).trans (hb.mono (by simp))).trans (((Below.refl _ w1).alloc (by have := hb.size; simp at this; omega) _).trans (hb2.mono (by have := hb.size; simp at this ⊢; omega)))
            go_wp2_with fail
            go_ret
            exact ⟨by rw [HF.out]; rfl, hbb⟩
        · have HF := Lib.hid (show foldB r = encodeRune r by unfold foldB foldZ; rw [if_neg h1, if_neg hz, if_neg hz2, if_neg h4, flat_one])
          have HE := Lib.hid (encode_eq r hrr)
          have m1 : (r == 223) = false := by simp; omega
          have m2 : (r == 7838) = false := by simp; omega
          go_enter Tryd.func29, Tryd.ntmps29
          go_wp2_with fail
          refine (within_any r ups w.heap.size _ (by decide) (by simp) (new_cells w ups _)).mono ?_
          rintro e w1 ⟨rfl, hb⟩
          rw [h2]
          go_wp2_with fail
          refine (within_any r ups2 w1.heap.size _ (by decide) (by simp) (new_cells w1 ups2 _)).mono ?_
          rintro e w2 ⟨rfl, hb2⟩
          rw [h3]
          have hbb : Below w.heap.size w w2 := (((Below.refl _ w).alloc (Nat.le_refl _) _).trans (hb.mono (by simp))).trans (((Below.refl _ w1).alloc (by have := hb.size; simp at this; omega) _).trans (hb2.mono (by have := hb.size; simp at this ⊢; omega)))
          go_wp2_with fail
          go_ret
          exact ⟨by rw [HF.out, ← HE.out]; rfl, hbb⟩
end Go.Proofs.YtkomodicpfbkhaaDoor
