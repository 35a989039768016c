/-
  class.Blank and the reference's, where no other class is reached. Conditions: none.
-/
import Derived.Test.YtkomodicpfbkhaaDoorWithin
import Derived.Test.YtkomodicpfbkhaaDoorBase
namespace Go.Proofs.YtkomodicpfbkhaaDoor
open Go.RowKit

def blanks : List (Int × Int) := [(9, 10), (12, 13), (32, 32), (160, 160), (5760, 5760), (8192, 8202), (8239, 8239), (8287, 8287), (12288, 12288)]
/-- Is a character a blank? -/
def blankB (r : Int) : Bool := inSpans r blanks

theorem new_cells (w : World) (l : List (Int × Int)) (T : TypeId) : ∀ j v, (spanCells l)[j]? = some v → (w.alloc (.cells (spanCells l).toArray T)).cell? ⟨w.heap.size, j, none⟩ = some v := by
  intro j v h
  rw [World.cell?_alloc_new]
  simpa using h

set_option maxHeartbeats 1000000 in
theorem blank_any (r : Int) (w : World) : Calls Tryd.prog 25 #[.int .i64 r] w fun e w' => e = .returned (.bool (blankB r)) ∧ Below w.heap.size w w' := by
  go_enter Tryd.func25, Tryd.ntmps25
  go_wp2_with (go_at_call 44; refine (within_any r blanks w.heap.size _ (by decide) (by simp) (new_cells w blanks _)).mono ?_; rintro e w' ⟨rfl, hb⟩)
  go_ret
  exact ⟨rfl, ((Below.refl _ _).alloc (Nat.le_refl _) _).trans (hb.mono (by simp))⟩

set_option maxHeartbeats 4000000 in
theorem ref_blank_any (r : Int) (w : World) : Calls Tryd.prog 31 #[.int .i64 r] w fun e w' => e = .returned (.bool (blankB r)) ∧ w = w' := by
  go_enter Tryd.func31, Tryd.ntmps31
  go_wp2
  all_goals
    go_ret
    refine ⟨ret_bool ?_, rfl⟩
    rw [Bool.eq_iff_iff]
    simp [blankB, inSpans, blanks]
    try omega
end Go.Proofs.YtkomodicpfbkhaaDoor
