/-
  The walk of RulesWords: it returns true whatever the word. Conditions: the two tables of unicode/utf8.
-/
import Derived.Test.YtlebikmiophghaaDoorRefNamed
namespace Go.Proofs.YtlebikmiophghaaDoor
open Go.RowKit Go.Lib

namespace rulesWords
set_option maxHeartbeats 8000000 in
set_option maxRecDepth 100000 in
theorem walk (s : ByteArray) (hs : s.size ≤ maxLen) (w : World) (hT : Tabs w) :
    Calls Tryd.prog 8 #[.string s] w fun e w' => e = .returned (.bool true) ∧ Below w.heap.size w w' := by
  unfold maxLen at hs
  by_cases hbig : 1000 < s.size
  · go_enter Tryd.func8, Tryd.ntmps8
    go_wp2_with fail
    refine (rules_alive _ hT).mono ?_
    rintro e w1 ⟨rfl, b1⟩
    go_wp2_with fail
    go_ret
    exact ⟨rfl, b1⟩
  · obtain ⟨nb, nl⟩ := namedP_bound s.data.toList
    go_enter Tryd.func8, Tryd.ntmps8
    go_wp2_with fail
    refine (rules_alive _ hT).mono ?_
    rintro e w1 ⟨rfl, b1⟩
    have z1 := b1.size
    have hT1 := hT.below b1
    go_wp2_with fail
    refine (find_any s (by omega) _ hT1).mono ?_
    rintro e w2 ⟨rfl, b2⟩
    have z2 := b2.size
    have hT2 := hT1.below b2
    go_wp2_with fail
    refine (ref_find_any s (by omega) _).mono ?_
    rintro e w3 ⟨rfl, b3⟩
    have z3 := b3.size
    have hT3 := hT2.below b3
    have hb3 : Below w.heap.size w w3 := b1.trans ((b2.mono z1).trans (b3.mono (by omega)))
    go_wp2_with fail
    refine (named_any s (by omega) _ hT3).mono ?_
    rintro e w4 ⟨⟨v4, rfl, h4⟩, b4⟩
    have z4 := b4.size
    go_wp2_with fail
    refine (ref_named_any s (by omega) _).mono ?_
    rintro e w5 ⟨⟨v5, rfl, h5⟩, b5⟩
    have z5 := b5.size
    go_wp2_with fail
    refine (sameInts_any _ nl nb _ _ _ (h4.below b5) h5).mono ?_
    rintro e w6 ⟨rfl, b6⟩
    go_wp2_with fail
    go_ret
    exact ⟨ret_bool (by simp), hb3.trans ((b4.mono (by omega)).trans ((b5.mono (by omega)).trans (b6.mono (by omega))))⟩
end rulesWords
end Go.Proofs.YtlebikmiophghaaDoor
