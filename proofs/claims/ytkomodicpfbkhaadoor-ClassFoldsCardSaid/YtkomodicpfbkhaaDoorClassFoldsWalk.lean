/-
  The walk of ClassFolds: it returns true whatever the text. Conditions: the two tables of unicode/utf8.
-/
import Derived.Test.YtkomodicpfbkhaaDoorRefFoldW
import Derived.Test.YtkomodicpfbkhaaDoorFoldF
namespace Go.Proofs.YtkomodicpfbkhaaDoor
open Go.RowKit Go.Lib

namespace classFolds
set_option maxHeartbeats 4000000 in
theorem walk (s : ByteArray) (hs : s.size ≤ maxLen) (w : World) (hT : Tabs w) :
    Calls Tryd.prog 4 #[.string s] w fun e w' => e = .returned (.bool true) ∧ Below w.heap.size w w' := by
  have C1 := Lib.hid (show foldS [32, 70, 111, 111, 9, 10, 66, 65, 82, 32] = [102, 111, 111, 32, 98, 97, 114] by rw [foldS_eq _ 10 rfl]; decide +kernel)
  by_cases hbig : 50000 < s.size
  · go_enter Tryd.func4, Tryd.ntmps4
    go_wp2_with fail
    refine (foldS_any _ (by decide) _ hT).mono ?_
    rintro e w1 ⟨rfl, b1⟩
    rw [C1.out]
    go_wp2_with fail
    go_ret
    exact ⟨rfl, b1⟩
  · go_enter Tryd.func4, Tryd.ntmps4
    go_wp2_with fail
    refine (foldS_any _ (by decide) _ hT).mono ?_
    rintro e w1 ⟨rfl, b1⟩
    rw [C1.out]
    go_wp2_with fail
    refine (foldS_any s (by omega) _ (hT.below b1)).mono ?_
    rintro e w2 ⟨rfl, b2⟩
    go_wp2_with fail
    refine (ref_foldS_any s (by omega) _).mono ?_
    rintro e w3 ⟨rfl, b3⟩
    go_wp2_with fail
    go_ret
    have z1 := b1.size
    have z2 := b2.size
    exact ⟨ret_bool (by simp), b1.trans ((b2.mono (by omega)).trans (b3.mono (by omega)))⟩
end classFolds
end Go.Proofs.YtkomodicpfbkhaaDoor
