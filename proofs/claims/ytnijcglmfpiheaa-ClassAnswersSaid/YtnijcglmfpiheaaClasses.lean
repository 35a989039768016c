/-
  class.Blank, Plain, Mark and the reference's: what each answers. Conditions: none.
-/
import Derived.Test.YtnijcglmfpiheaaWithin
namespace Go.Proofs.Ytnijcglmfpiheaa
open Go.RowKit

theorem ret_bool {a b : Bool} (h : a = b) : Ending.returned (.bool a) = .returned (.bool b) := by rw [h]

def blanks : List (Int × Int) := [(9, 10), (12, 13), (32, 32), (160, 160), (5760, 5760), (8192, 8202), (8239, 8239), (8287, 8287), (12288, 12288)]
def plains : List (Int × Int) := [(33, 47), (58, 64), (91, 96), (123, 126)]
def latins : List (Int × Int) := [(161, 169), (171, 172), (174, 177), (180, 180), (182, 184), (187, 187), (191, 191), (215, 215), (247, 247)]
def others : List (Int × Int) := [(8208, 8231), (8240, 8286), (8352, 8384), (8592, 8703), (12289, 12291), (12296, 12305)]
/-- Is a character a blank? -/
def blankB (r : Int) : Bool := inSpans r blanks
/-- Is a byte a plain mark? -/
def plainB (r : Int) : Bool := inSpans r plains
/-- Is a character a mark? -/
def markB (r : Int) : Bool := if 0 ≤ r ∧ r < 128 then plainB r else inSpans r latins || inSpans r others

theorem new_cells (w : World) (l : List (Int × Int)) (T : TypeId) : ∀ j v, (spanCells l)[j]? = some v → (w.alloc (.cells (spanCells l).toArray T)).cell? ⟨w.heap.size, j, none⟩ = some v := by
  intro j v h
  rw [World.cell?_alloc_new]
  simpa using h

set_option maxHeartbeats 1000000 in
theorem blank_any (r : Int) (w : World) : Calls Try.prog 13 #[.int .i64 r] w fun e w' => e = .returned (.bool (blankB r)) ∧ Below w.heap.size w w' := by
  go_enter Try.func13, Try.ntmps13
  go_wp2_with (go_at_call 31; refine (within_any r blanks w.heap.size _ (by decide) (by simp) (new_cells w blanks _)).mono ?_; rintro e w' ⟨rfl, hb⟩)
  go_ret
  exact ⟨rfl, ((Below.refl _ _).alloc (Nat.le_refl _) _).trans (hb.mono (by simp))⟩

set_option maxHeartbeats 1000000 in
theorem plain_any (r : Int) (h0 : 0 ≤ r) (h1 : r < 256) (w : World) : Calls Try.prog 17 #[.int .u8 r] w fun e w' => e = .returned (.bool (plainB r)) ∧ Below w.heap.size w w' := by
  go_enter Try.func17, Try.ntmps17
  go_wp2_with (go_at_call 31; refine (within_any r plains w.heap.size _ (by decide) (by simp) (new_cells w plains _)).mono ?_; rintro e w' ⟨rfl, hb⟩)
  go_ret
  exact ⟨rfl, ((Below.refl _ _).alloc (Nat.le_refl _) _).trans (hb.mono (by simp))⟩
end Go.Proofs.Ytnijcglmfpiheaa
