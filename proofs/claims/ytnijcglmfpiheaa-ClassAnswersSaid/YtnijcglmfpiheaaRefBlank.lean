/-
  The reference's Blank and Plain and Mark, and class.Mark. Conditions: none.
-/
import Derived.Test.YtnijcglmfpiheaaClasses
namespace Go.Proofs.Ytnijcglmfpiheaa
open Go.RowKit

set_option maxHeartbeats 4000000 in
theorem ref_blank_any (r : Int) (w : World) : Calls Try.prog 15 #[.int .i64 r] w fun e w' => e = .returned (.bool (blankB r)) ∧ w = w' := by
  go_enter Try.func15, Try.ntmps15
  go_wp2
  all_goals
    go_ret
    refine ⟨ret_bool ?_, rfl⟩
    rw [Bool.eq_iff_iff]
    simp [blankB, inSpans, blanks]
    try omega

set_option maxHeartbeats 4000000 in
theorem ref_plain_any (r : Int) (w : World) : Calls Try.prog 18 #[.int .u8 r] w fun e w' => e = .returned (.bool (plainB r)) ∧ w = w' := by
  go_enter Try.func18, Try.ntmps18
  go_wp2
  all_goals
    go_ret
    refine ⟨ret_bool ?_, rfl⟩
    rw [Bool.eq_iff_iff]
    simp [plainB, inSpans, plains]
    try omega
end Go.Proofs.Ytnijcglmfpiheaa
