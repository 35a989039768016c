/-
  class.Mark and the reference's Mark: what each answers. Conditions: none.
-/
import Derived.Test.YtnijcglmfpiheaaRefBlank
namespace Go.Proofs.Ytnijcglmfpiheaa
open Go.RowKit

theorem mark_low {r : Int} (h0 : 0 ≤ r) (h1 : r < 128) : markB r = plainB r := by unfold markB; rw [if_pos ⟨h0, h1⟩]
theorem mark_high {r : Int} (h : ¬ (0 ≤ r ∧ r < 128)) : markB r = (inSpans r latins || inSpans r others) := by unfold markB; rw [if_neg h]

set_option maxHeartbeats 4000000 in
theorem mark_any (r : Int) (w : World) : Calls Try.prog 14 #[.int .i64 r] w fun e w' => e = .returned (.bool (markB r)) ∧ Below w.heap.size w w' := by
  by_cases h : 0 ≤ r ∧ r < 128
  · obtain ⟨h0, h1⟩ := h
    have hm := mark_low h0 h1
    have HM := Lib.hid hm
    clear hm
    go_enter Try.func14, Try.ntmps14
    go_wp2_with (go_at_call 17; refine (plain_any _ (by omega) (by omega) _).mono ?_; rintro e w' ⟨rfl, hb⟩)
    go_ret
    exact ⟨ret_bool HM.out.symm, hb⟩
  · have hm := mark_high h
    have HM := Lib.hid hm
    clear hm
    have hcond : (decide (0 ≤ r) = true ∧ decide (r < 128) = false) ∨ decide (0 ≤ r) = false := by
      by_cases h0 : 0 ≤ r
      · left; exact ⟨by simpa using h0, by simp; omega⟩
      · right; simpa using h0
    cases hl : inSpans r latins with
    | true =>
      rw [hl] at HM
      have HL := Lib.hid hl
      clear hl
      rcases hcond with ⟨hc0, hc1⟩ | hc0
      all_goals
        go_enter Try.func14, Try.ntmps14
        go_wp2_with (go_at_call 31; refine (within_any r latins w.heap.size _ (by decide) (by simp) (new_cells w latins _)).mono ?_; rintro e w' ⟨rfl, hb⟩; rw [HL.out])
        go_ret
        exact ⟨ret_bool (by rw [HM.out]; rfl), ((Below.refl _ _).alloc (Nat.le_refl _) _).trans (hb.mono (by simp))⟩
    | false =>
      rw [hl] at HM
      have HL := Lib.hid hl
      clear hl
      rcases hcond with ⟨hc0, hc1⟩ | hc0
      all_goals
        go_enter Try.func14, Try.ntmps14
        go_wp2_with fail
        refine (within_any r latins w.heap.size _ (by decide) (by simp) (new_cells w latins _)).mono ?_
        rintro e w1 ⟨rfl, hb⟩
        rw [HL.out]
        go_wp2_with fail
        refine (within_any r others w1.heap.size _ (by decide) (by simp) (new_cells w1 others _)).mono ?_
        rintro e w2 ⟨rfl, hb2⟩
        go_wp2_with fail
        go_ret
        exact ⟨ret_bool (by rw [HM.out]; rfl), (((Below.refl _ _).alloc (Nat.le_refl _) _).trans (hb.mono (by simp))).trans (((Below.refl _ _).alloc (by have := hb.size; simp at this; omega) _).trans (hb2.mono (by have := hb.size; simp at this ⊢; omega)))⟩
end Go.Proofs.Ytnijcglmfpiheaa
