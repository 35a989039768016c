/-
  The columns that the document fixes: they are so. Conditions: none.
-/
import Derived.Test.YtlebikmiophghaaDoorColumnW
namespace Go.Proofs.YtlebikmiophghaaDoor
open Go.RowKit Go.Lib

theorem ba_app (a b : ByteArray) : (a ++ b).data.toList = a.data.toList ++ b.data.toList := by
  rw [ByteArray.data_append, Array.toList_append]
theorem ba_len (s : ByteArray) : s.data.toList.length = s.size := Array.length_toList

set_option maxHeartbeats 4000000 in
theorem column_alive (w : World) : Calls Tryd.prog 18 #[] w fun e w' => e = .returned (.bool true) ∧ Below w.heap.size w w' := by
  have C1 := Lib.hid (show colEnd (indL [9, 32, 120]) (beginC 2) - beginC 2 = 3 by decide)
  have C2 := Lib.hid (show (indL [9, 32, 120]).length = 2 by decide)
  have C3 := Lib.hid (show beginC 0 + max 0 (min 1 (colEnd (indL [9, 120]) (beginC 0) - beginC 0)) = 1 by decide)
  have C4 := Lib.hid (show colEnd [97, 9, 98] (beginC 0) - beginC 0 = 5 by decide)
  have k1 := fun w => indent_any ⟨#[9, 32, 120]⟩ (by decide) 2 w
  have k2 := fun w => drop_any ⟨#[9, 120]⟩ (by decide) 0 1 (by decide) (by decide) w
  have k3 := fun w => width_any ⟨#[97, 9, 98]⟩ (by decide) 0 w
  simp only [show (⟨#[9, 32, 120]⟩ : ByteArray).data.toList = [9, 32, 120] from rfl, C1.out, C2.out] at k1
  simp only [show (⟨#[9, 120]⟩ : ByteArray).data.toList = [9, 120] from rfl, C3.out] at k2
  simp only [show (⟨#[97, 9, 98]⟩ : ByteArray).data.toList = [97, 9, 98] from rfl, C4.out] at k3
  go_enter Tryd.func18, Tryd.ntmps18
  go_wp2_with fail
  refine (k1 _).mono ?_
  rintro e w1 ⟨rfl, b1⟩
  have z1 := b1.size
  go_wp2_with fail
  refine (k2 _).mono ?_
  rintro e w2 ⟨⟨g, hd, rfl⟩, b2⟩
  obtain rfl : g = 0 := by
    obtain ⟨h1, h2, _⟩ := hd
    have : (indL [9, 120]).length = 1 := by decide
    rw [this] at h1
    have hg : g = 0 ∨ g = 1 := by omega
    rcases hg with h | h
    · exact h
    · subst h; revert h2; decide
  have C5 : leftOf [9, 120] (beginC 0) 1 0 = 3 := by decide
  rw [C5]
  clear hd
  go_wp2_with fail
  refine (k3 _).mono ?_
  rintro e w3 ⟨rfl, hw3⟩
  subst hw3
  go_wp2_with fail
  go_ret
  exact ⟨rfl, b1.trans (b2.mono z1)⟩
end Go.Proofs.YtlebikmiophghaaDoor
