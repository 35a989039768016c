/-
  The walk of TextBefore: it returns true whatever the text. Conditions: the two tables of unicode/utf8.
-/
import Derived.Test.YtkomodicpfbkhaaDoorBefore
namespace Go.Proofs.YtkomodicpfbkhaaDoor
open Go.RowKit Go.Lib

theorem ret_bool {a b : Bool} (h : a = b) : Ending.returned (.bool a) = .returned (.bool b) := by rw [h]

namespace textBefore
set_option maxHeartbeats 4000000 in
theorem walk (s : ByteArray) (hs : s.size ≤ maxLen) (i : Int) (_hi : Lit.wf (.int .i64 i) = true) (w : World) (hT : Tabs w) :
    Calls Tryd.prog 3 #[.string s, .int .i64 i] w fun e w' => e = .returned (.bool true) ∧ Below w.heap.size w w' := by
  have C1 := Lib.hid (show beforeP ⟨#[195, 169]⟩ 2 = 233 by decide +kernel)
  have C2 := Lib.hid (show beforeP ⟨#[]⟩ 0 = -1 by decide +kernel)
  have hs' := hs
  unfold maxLen at hs'
  by_cases hbig : 100000 < s.size
  · go_enter Tryd.func3, Tryd.ntmps3
    go_wp2_with fail
    refine (before_any _ (by decide) _ _ hT).mono ?_
    rintro e w1 ⟨rfl, b1⟩
    rw [C1.out]
    go_wp2_with fail
    refine (before_any _ (by decide) _ _ (hT.below b1)).mono ?_
    rintro e w2 ⟨rfl, b2⟩
    rw [C2.out]
    go_wp2_with fail
    go_ret
    exact ⟨rfl, b1.trans (b2.mono b1.size)⟩
  · have hbd := runeP_bounds s i
    have HL := Lib.hid (runeP_long s i)
    have HV := Lib.hid (runeV_P s i)
    have HB := Lib.hid (beforeP_behind s i)
    go_enter Tryd.func3, Tryd.ntmps3
    go_wp2_with fail
    refine (before_any _ (by decide) _ _ hT).mono ?_
    rintro e w1 ⟨rfl, b1⟩
    rw [C1.out]
    go_wp2_with fail
    refine (before_any _ (by decide) _ _ (hT.below b1)).mono ?_
    rintro e w2 ⟨rfl, b2⟩
    rw [C2.out]
    go_wp2_with fail
    have hT2 := (hT.below b1).below b2
    refine (text_rune_any s hs i _ hT2).mono ?_
    rintro e w3 ⟨rfl, b3⟩
    rw [HV.out]
    have z1 := b1.size
    have z2 := b2.size
    have z3 := b3.size
    have hT3 := hT2.below b3
    by_cases hn : 1 < (runeP s i).2
    · have HQ := Lib.hid (HB.out hn)
      obtain ⟨g0, g1, _⟩ := HL.out hn
      generalize (runeP s i).1 = v at *
      generalize (runeP s i).2 = n at *
      go_wp2_with fail
      refine (before_any s hs _ _ hT3).mono ?_
      rintro e w4 ⟨rfl, b4⟩
      rw [HQ.out]
      have z4 := b4.size
      go_wp2_with fail
      refine (before_any s hs _ _ (hT3.below b4)).mono ?_
      rintro e w5 ⟨rfl, b5⟩
      have z5 := b5.size
      go_wp2_with fail
      refine (ref_before_any s hs _ _).mono ?_
      rintro e w6 ⟨rfl, b6⟩
      go_wp2_with fail
      go_ret
      exact ⟨ret_bool (by simp), b1.trans ((b2.mono (by omega)).trans ((b3.mono (by omega)).trans ((b4.mono (by omega)).trans ((b5.mono (by omega)).trans (b6.mono (by omega))))))⟩
    · generalize (runeP s i).1 = v at *
      generalize (runeP s i).2 = n at *
      go_wp2_with fail
      refine (before_any s hs _ _ hT3).mono ?_
      rintro e w5 ⟨rfl, b5⟩
      have z5 := b5.size
      go_wp2_with fail
      refine (ref_before_any s hs _ _).mono ?_
      rintro e w6 ⟨rfl, b6⟩
      go_wp2_with fail
      go_ret
      exact ⟨ret_bool (by simp), b1.trans ((b2.mono (by omega)).trans ((b3.mono (by omega)).trans ((b5.mono (by omega)).trans (b6.mono (by omega)))))⟩
end textBefore
end Go.Proofs.YtkomodicpfbkhaaDoor
