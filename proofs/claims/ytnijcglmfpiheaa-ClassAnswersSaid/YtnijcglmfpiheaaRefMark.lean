/-
  The reference's Mark: what it answers. Conditions: none.
-/
import Derived.Test.YtnijcglmfpiheaaMark
namespace Go.Proofs.Ytnijcglmfpiheaa
open Go.RowKit

set_option maxHeartbeats 4000000 in
theorem ref_mark_low (r : Int) (h0 : 0 ≤ r) (h1 : r < 128) (w : World) : Calls Try.prog 16 #[.int .i64 r] w fun e w' => e = .returned (.bool (markB r)) ∧ w = w' := by
  have HM := Lib.hid (mark_low h0 h1)
  go_enter Try.func16, Try.ntmps16
  go_wp2_with (go_at_call 18; refine (ref_plain_any _ _).mono ?_; rintro e w' ⟨rfl, rfl⟩)
  go_ret
  exact ⟨ret_bool HM.out.symm, rfl⟩

set_option maxHeartbeats 16000000 in
set_option maxRecDepth 100000 in
theorem ref_mark_high (r : Int) (h : ¬ (0 ≤ r ∧ r < 128)) (w : World) : Calls Try.prog 16 #[.int .i64 r] w fun e w' => e = .returned (.bool (markB r)) ∧ w = w' := by
  have HM := Lib.hid (mark_high h)
  have hcond : (decide (0 ≤ r) = true ∧ decide (r < 128) = false) ∨ decide (0 ≤ r) = false := by
    by_cases h0 : 0 ≤ r
    · left; exact ⟨by simpa using h0, by simp; omega⟩
    · right; simpa using h0
  clear h
  rcases hcond with ⟨hc0, hc1⟩ | hc0
  · have g0 : 128 ≤ r := by simpa using hc1
    go_enter Try.func16, Try.ntmps16
    go_wp2
    all_goals
      go_ret
      refine ⟨ret_bool ?_, rfl⟩
      rw [HM.out, Bool.eq_iff_iff]
      simp [inSpans, latins, others]
      try first | omega | (simp only [beq_iff_eq, beq_eq_false_iff_ne] at *; omega)
  · have g0 : r < 0 := by simpa using hc0
    go_enter Try.func16, Try.ntmps16
    go_wp2
    all_goals
      go_ret
      refine ⟨ret_bool ?_, rfl⟩
      rw [HM.out, Bool.eq_iff_iff]
      simp [inSpans, latins, others]
      try first | omega | (simp only [beq_iff_eq] at *; omega)

theorem ref_mark_any (r : Int) (w : World) : Calls Try.prog 16 #[.int .i64 r] w fun e w' => e = .returned (.bool (markB r)) ∧ w = w' := by
  by_cases h : 0 ≤ r ∧ r < 128
  · exact ref_mark_low r h.1 h.2 w
  · exact ref_mark_high r h w
end Go.Proofs.Ytnijcglmfpiheaa
