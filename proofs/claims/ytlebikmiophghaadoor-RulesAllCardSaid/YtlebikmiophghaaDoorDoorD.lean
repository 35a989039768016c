/-
  What a row that lists the two tables of unicode/utf8 gives of the world; a world that holds them. Conditions: none beyond the list's.
-/
import Derived.Test.YtlebikmiophghaaDoorCards
import Derived.Test.YtlebikmiophghaaDoorTie
import Derived.Test.YtlebikmiophghaaDoorShelf
import Derived.Lib.LaidU8T
import Derived.PinnedBridge
import Derived.LaidMore
import Derived.Lay
import Derived.Deep.DeepHandedRow
namespace Go.Proofs.YtlebikmiophghaaDoor
open Go.ChangeShapes Go.WideShapes Go.ChangeAt Go.RowKit Go.Lib

def laidList : List (String × DataW Unit) := [("unicode/utf8.acceptRanges", Rows.laid_unicode_utf8_acceptRanges), ("unicode/utf8.first", Rows.laid_unicode_utf8_first)]

abbrev Tabs (w : World) : Prop := Lib.Utf8Tabs 1 2 w
theorem Tabs.below {w w' : World} (h : Tabs w) (hb : Below w.heap.size w w') : Tabs w' := Utf8Tabs_below h hb

theorem laid_first : (Rows.laid_unicode_utf8_first : DataW Unit) = firstData := Pinned.utf8First_eq
theorem laid_accept : (Rows.laid_unicode_utf8_acceptRanges : DataW Unit) = acceptData := by kernel_rfl

theorem laid_plain (W : World) : laidMetH Tryd.prog laidList W = laidMet Tryd.prog laidList W := MakeChecks.laidMetH_plain _ _ _ (by kernel_rfl)

set_option maxRecDepth 100000 in
/-- The list gives both tables. -/
theorem laid_tabs {W : World} (h : laidMetH Tryd.prog laidList W) : Tabs W := by
  rw [laid_plain] at h
  have h4 : VarReads Tryd.prog W "unicode/utf8.acceptRanges" acceptData := by
    rw [← laid_accept]; exact Lib.laidMet.reads h (.head _)
  have h3 : VarReads Tryd.prog W "unicode/utf8.first" firstData := by
    rw [← laid_first]; exact Lib.laidMet.reads h (.tail _ (.head _))
  exact utf8Tabs_of_readsT (U8Types.of260 Tryd.lays260) ⟨by kernel_rfl, by kernel_rfl, by kernel_rfl, by kernel_rfl, by kernel_rfl, by kernel_rfl, by kernel_rfl⟩ h3 h4

end Go.Proofs.YtlebikmiophghaaDoor
